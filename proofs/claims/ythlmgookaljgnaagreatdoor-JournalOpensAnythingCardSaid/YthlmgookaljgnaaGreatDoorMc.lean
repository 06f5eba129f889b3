/- The reference's SHA-256: a block.
  Plain facts on trees of digests: the root of a list by a stack of complete parts, proofs and extensions. No program in sight.
  Digests of marked strings; the small functions of trees.
  The small functions of trees.
  slices.IndexFunc, ContainsFunc at strings.
  slices.Backward over strings.
  slices.Backward over sides.
  Root: the stack of complete parts.
  YthlmgookaljgnaaGreatDoorDigB
-/
import Derived.Test.YthlmgookaljgnaaGreatDoorMb
import Derived.Test.YthlmgookaljgnaaGreatDoorShelf
import Derived.Deep.RegionWith
import Derived.RangeFuncNested
import Derived.RangeFuncCalls
import Derived.Deep.RegionLaw
import Derived.Deep.RegionHeld3
import Derived.Deep.AppendLies
namespace Go.Proofs.YthlmgookaljgnaaGreatDoor
open Go.RowKit
set_option linter.unusedVariables false

theorem t_int2 (e f g h k x : Nat) (le : e < 4294967296) (lf : f < 4294967296) (lg : g < 4294967296) (lh : h < 4294967296) :
    (((h : Int) + ((Sha.mix e [6, 11, 25] : Nat) : Int) + bits BinOp.xor IntKind.u32 (bits BinOp.and IntKind.u32 (e : Int) (f : Int)) (bits BinOp.and IntKind.u32 (bits BinOp.xor IntKind.u32 (if IntKind.u32.signed = true then -1 else IntKind.u32.max) (e : Int)) (g : Int)) + (k : Int)) % 4294967296 + (x : Int)) % 4294967296 =
      ((Sha.tval e f g h k x : Nat) : Int) := by
  rw [← t_int e f g h k x le lf lg lh]
  rw [show (if IntKind.u32.signed = true then (-1 : Int) else IntKind.u32.max) = IntKind.u32.max from rfl]
  simp only [IntKind.wrap_u32']
  omega
theorem u_int2 (a b c : Nat) (la : a < 4294967296) (lb : b < 4294967296) (lc : c < 4294967296) :
    (((Sha.mix a [2, 13, 22] : Nat) : Int) + bits BinOp.xor IntKind.u32 (bits BinOp.xor IntKind.u32 (bits BinOp.and IntKind.u32 (a : Int) (b : Int)) (bits BinOp.and IntKind.u32 (a : Int) (c : Int))) (bits BinOp.and IntKind.u32 (b : Int) (c : Int))) % 4294967296 =
      ((Sha.uval a b c : Nat) : Int) := by
  rw [← u_int a b c la lb lc, IntKind.wrap_u32']
theorem addV_take (H V : List Nat) (h1 : H.length = 8) (h2 : V.length = 8) (k : Nat) (hk : k < 8) : (Sha.addV H V).take (k + 1) = (Sha.addV H V).take k ++ [(H.getD k 0 + V.getD k 0) % 4294967296] := by
  have hA : (Sha.addV H V).length = 8 := by simp [Sha.addV, h1, h2]
  rw [List.take_succ_eq_append_getElem (by omega)]
  congr 2
  simp only [Sha.addV, List.getElem_zipWith, List.getD_eq_getElem?_getD]
  rw [List.getElem?_eq_getElem (by omega), List.getElem?_eq_getElem (by omega)]; rfl
theorem wrap_add (x y : Nat) : IntKind.u32.wrap ((x : Int) + (y : Int)) = (((x + y) % 4294967296 : Nat) : Int) := by
  rw [IntKind.wrap_u32']; omega
/-- Eight words, in a world that has kept what was there. -/
def V8 (w0 : World) (l : List Nat) (v : Value) (wr : World) : Prop :=
  (∃ b cap, v = .slice (some ⟨b, 0, none⟩) 8 cap ∧ 8 ≤ cap ∧ b < wr.heap.size ∧ ∀ (j : Nat) (x : Nat), l[j]? = some x → wr.cell? ⟨b, j, none⟩ = some (.int .u32 (x : Int))) ∧ Below w0.heap.size w0 wr
theorem below_drewN' {b : Nat} {w w' : World} (h : Below b w w') (n : Nat) : Below b w (w'.drewN n) := ⟨h.os, h.tape, h.output, h.size, h.block⟩
set_option maxRecDepth 100000 in
set_option maxHeartbeats 8000000 in
theorem block_any (H bs : List Nat) (hH : H.length = 8) (hHs : Sha.small H) (hb : Sha.bytes bs) (hl : bs.length = 64) (hv : Value) (w : World) (hHv : NL w hv H) (g off c : Nat) (hg : g < w.heap.size) (hc : BytesAt w g off bs) :
    Calls Tryz.prog 101 #[hv, .slice (some ⟨g, off, none⟩) 64 c] w fun e w' => ∃ v, e = .returned v ∧ OWd w (Sha.blk H bs) 8 v w' := by
  obtain ⟨i0, hi, hz0, hz1, hz2⟩ := info_parts Tryz.infoW
  obtain ⟨gh, oh, ch, rfl, hch, hgh, hcH⟩ := hHv.form
  have HCH := Lib.hid hcH
  have HLEN := Lib.hid hH
  have HC : Hid (∀ (wr : World), Below w.heap.size w wr → ∀ i, i < 64 → wr.cell? ⟨g, off + i, none⟩ = some (.int .u8 (bs.getD i 0 : Nat))) :=
    Lib.hid fun wr hB i hi => (hB.cell (p := ⟨g, off + i, none⟩) hg).trans (hc i (by omega))
  rw [hH] at hch ⊢
  clear hl hc hHv hcH hH
  go_enter Tryz.func101, Tryz.ntmps101
  go_wp2
  go_loopw [5, 6] (fun v i wr => ∃ k : Nat, k ≤ 16 ∧ i = .int .i64 k ∧ OWd w (Sha.schedN bs k) k v wr) (fun _ i _ => 16 - (intOf i).toNat)
  case atStart => exact ⟨0, by omega, rfl, World.ownsRow_nil _ _ _ _, Below.refl _ _⟩
  case round =>
    obtain ⟨k, hk, rfl, hS⟩ := hrel
    have HS := Lib.hid hS
    clear hS
    by_cases hlt : k < 16
    · have hd := (Sha.getD_byte hb)
      have c0 := HC.out wr HS.out.below (4 * k) (by omega)
      have c1 := HC.out wr HS.out.below (4 * k + 1) (by omega)
      have c2 := HC.out wr HS.out.below (4 * k + 2) (by omega)
      have c3 := HC.out wr HS.out.below (4 * k + 3) (by omega)
      have l0 := hd (4 * k)
      have l1 := hd (4 * k + 1)
      have l2 := hd (4 * k + 2)
      have l3 := hd (4 * k + 3)
      have N := Lib.hid (Sha.schedN_lo bs k hlt)
      unfold Sha.word at N
      generalize bs.getD (4 * k) 0 = x0 at *
      generalize bs.getD (4 * k + 1) 0 = x1 at *
      generalize bs.getD (4 * k + 2) 0 = x2 at *
      generalize bs.getD (4 * k + 3) 0 = x3 at *
      clear hd
      have hne5 : ∀ j, u5.ownBlock = some j → j ≠ g := fun j e => by have := (HS.out.row.lt j e).1; omega
      have m0 : IntKind.i64.wrap (4 * (k : Int)) = 4 * (k : Int) := IntWalk.i64_in _ (by omega)
      have m1 : IntKind.i64.wrap (4 * (k : Int) + 1) = 4 * (k : Int) + 1 := IntWalk.i64_in _ (by omega)
      have m2 : IntKind.i64.wrap (4 * (k : Int) + 2) = 4 * (k : Int) + 2 := IntWalk.i64_in _ (by omega)
      have m3 : IntKind.i64.wrap (4 * (k : Int) + 3) = 4 * (k : Int) + 3 := IntWalk.i64_in _ (by omega)
      have t0 : (4 * (k : Int)).toNat = 4 * k := by omega
      have t1 : (4 * (k : Int) + 1).toNat = 4 * k + 1 := by omega
      have t2 : (4 * (k : Int) + 2).toNat = 4 * k + 2 := by omega
      have t3 : (4 * (k : Int) + 3).toNat = 4 * k + 3 := by omega
      have p0 : 0 ≤ 4 * (k : Int) := by omega
      have p1 : 0 ≤ 4 * (k : Int) + 1 := by omega
      have p2 : 0 ≤ 4 * (k : Int) + 2 := by omega
      have p3 : 0 ≤ 4 * (k : Int) + 3 := by omega
      have q0 : 4 * (k : Int) < 64 := by omega
      have q1 : 4 * (k : Int) + 1 < 64 := by omega
      have q2 : 4 * (k : Int) + 2 < 64 := by omega
      have q3 : 4 * (k : Int) + 3 < 64 := by omega
      go_wp2
      go_region_held3 (fun w' => w'.cell? ⟨g, off + 4 * k, none⟩ = some (.int .u8 (x0 : Nat)) ∧ w'.cell? ⟨g, off + (4 * k + 1), none⟩ = some (.int .u8 (x1 : Nat)) ∧ w'.cell? ⟨g, off + (4 * k + 2), none⟩ = some (.int .u8 (x2 : Nat)) ∧ w'.cell? ⟨g, off + (4 * k + 3), none⟩ = some (.int .u8 (x3 : Nat)))
        ((first | (with_reducible exact ⟨c0, c1, c2, c3⟩) | (with_reducible exact ⟨keepA c0, keepA c1, keepA c2, keepA c3⟩) | (with_reducible exact ⟨keepA0 c0, keepA0 c1, keepA0 c2, keepA0 c3⟩) | (with_reducible exact ⟨d0, d1, d2, d3⟩) | go_keep))
        ((refine step_append_lies _ (by rfl) _ _ _ (by rfl) w.heap.size 156 i0 _ 1 4 Tryz.underlying157 hi hz0 hz1 hz2 rfl (by omega) u5 k _ (by rfl) (by first | exact (HS.out.row.alloc _).drew | exact HS.out.row.drew.alloc _ | exact HS.out.row.alloc _) ⟨wr.heap.size, 0, none⟩ 1 1 [.int .u32 ((Sha.wordv x0 x1 x2 x3 : Nat) : Int)] (by rfl) (by rfl) (news_one' (congrArg (Value.int .u32) (word_int x0 x1 x2 x3 l0 l1 l2 l3)) (by first | exact heap_alloc_new _ _ | (rw [drewHeap]; exact heap_alloc_new _ _))) (by simp [Value.oneCell']) (by omega) (by simp only [maxLen]; omega) (by omega) (by have := HS.out.below.size; simp; omega) (wr.heap.size + 1) (by simp) ?_
          intro gg cc W2 hown hgr hat hlt6
          have d0 := keepG hgr (by first | exact keepA c0 | exact keepA0 c0) hne5
          have d1 := keepG hgr (by first | exact keepA c1 | exact keepA0 c1) hne5
          have d2 := keepG hgr (by first | exact keepA c2 | exact keepA0 c2) hne5
          have d3 := keepG hgr (by first | exact keepA c3 | exact keepA0 c3) hne5))
      have O2 := Lib.hid hown
      have G2 : Hid ((wr.alloc _).grownBy W2 u5.ownBlock) := Lib.hid (by first | exact hgr | exact grown_of_drew hgr)
      clear hown hgr hat hlt6 d0 d1 d2 d3 c0 c1 c2 c3 m0 m1 m2 m3 t0 t1 t2 t3 hne5
      go_wp2
      go_roundw
      case rel => exact ⟨k + 1, by omega, by go_num, HS.out.push _ [Sha.wordv x0 x1 x2 x3] O2.out N.out G2.out⟩
      case measure => simp [intOf]; omega
    · obtain rfl : k = 16 := by omega
      rw [show ((16 : Nat) : Int) = 16 from rfl]
      clear HC
      go_wp2
      obtain ⟨wo, rfl⟩ : ∃ wo : World, wo = wr := ⟨_, rfl⟩
      go_loopw [5, 7, 8, 9] (fun v i _ _ wr => ∃ k : Nat, 16 ≤ k ∧ k ≤ 64 ∧ i = .int .i64 k ∧ OWd w (Sha.schedN bs k) k v wr) (fun _ i _ _ _ => 64 - (intOf i).toNat)
      case atStart => exact ⟨16, by omega, by omega, rfl, HS.out⟩
      case round =>
        clear HS
        obtain ⟨k, hk0, hk, rfl, hS⟩ := hrel
        obtain ⟨g5, c5, rfl, hc5, hg5, hcs⟩ := hS.form (by omega)
        have HS := Lib.hid hS
        have CS := Lib.hid hcs
        clear hS hcs
        by_cases hlt2 : k < 64
        · have hln := Sha.schedN_length bs k
          have c2 := CS.out (k - 2) ((Sha.schedN bs k).getD (k - 2) 0) (by rw [List.getD_eq_getElem?_getD, List.getElem?_eq_getElem (by omega)]; rfl)
          have c7 := CS.out (k - 7) ((Sha.schedN bs k).getD (k - 7) 0) (by rw [List.getD_eq_getElem?_getD, List.getElem?_eq_getElem (by omega)]; rfl)
          have c15 := CS.out (k - 15) ((Sha.schedN bs k).getD (k - 15) 0) (by rw [List.getD_eq_getElem?_getD, List.getElem?_eq_getElem (by omega)]; rfl)
          have c16 := CS.out (k - 16) ((Sha.schedN bs k).getD (k - 16) 0) (by rw [List.getD_eq_getElem?_getD, List.getElem?_eq_getElem (by omega)]; rfl)
          have hsm := Sha.getD_lt (Sha.sched_small hb k)
          have l2 := hsm (k - 2)
          have l15 := hsm (k - 15)
          have N := Lib.hid (Sha.schedN_hi bs k hk0)
          unfold Sha.next at N
          generalize (Sha.schedN bs k).getD (k - 2) 0 = x2 at *
          generalize (Sha.schedN bs k).getD (k - 7) 0 = x7 at *
          generalize (Sha.schedN bs k).getD (k - 15) 0 = x15 at *
          generalize (Sha.schedN bs k).getD (k - 16) 0 = x16 at *
          clear hsm hln
          have m2 : IntKind.i64.wrap ((k : Int) - 2) = (k : Int) - 2 := IntWalk.i64_in _ (by omega)
          have m7 : IntKind.i64.wrap ((k : Int) - 7) = (k : Int) - 7 := IntWalk.i64_in _ (by omega)
          have m15 : IntKind.i64.wrap ((k : Int) - 15) = (k : Int) - 15 := IntWalk.i64_in _ (by omega)
          have m16 : IntKind.i64.wrap ((k : Int) - 16) = (k : Int) - 16 := IntWalk.i64_in _ (by omega)
          have t2 : ((k : Int) - 2).toNat = k - 2 := by omega
          have t7 : ((k : Int) - 7).toNat = k - 7 := by omega
          have t15 : ((k : Int) - 15).toNat = k - 15 := by omega
          have t16 : ((k : Int) - 16).toNat = k - 16 := by omega
          have p2 : 0 ≤ (k : Int) - 2 := by omega
          have p7 : 0 ≤ (k : Int) - 7 := by omega
          have p15 : 0 ≤ (k : Int) - 15 := by omega
          have p16 : 0 ≤ (k : Int) - 16 := by omega
          have q2 : (k : Int) - 2 < (k : Int) := by omega
          have q7 : (k : Int) - 7 < (k : Int) := by omega
          have q15 : (k : Int) - 15 < (k : Int) := by omega
          have q16 : (k : Int) - 16 < (k : Int) := by omega
          have r2 : 2 ≤ (k : Int) := by omega
          have r7 : 7 ≤ (k : Int) := by omega
          have r15 : 15 ≤ (k : Int) := by omega
          have r16 : 16 ≤ (k : Int) := by omega
          go_wp2
          go_quiet ((go_at_call 115; first | (with_reducible exact Calls.quiet_of (rotated_any x15 7 7 rfl _ l15 (by decide) (by decide))) | (with_reducible exact Calls.quiet_of (rotated_any x15 18 18 rfl _ l15 (by decide) (by decide)))))
          rw [sig8 x15 l15 7 18]
          have HS1 : Hid (OWd w (Sha.schedN bs k) k (.slice (some ⟨g5, 0, none⟩) k c5) (wr.drewN nq)) := Lib.hid ⟨HS.out.row, below_drewN' HS.out.below nq⟩
          have hs15 : Sha.mix x15 [7, 18] ^^^ x15 / 8 < 4294967296 := Nat.xor_lt_two_pow (n := 32) (Sha.mix_lt _ l15 _) (by omega)
          replace c2 : (wr.drewN nq).cell? ⟨g5, k - 2, none⟩ = some (.int .u32 (x2 : Nat)) := c2
          replace c7 : (wr.drewN nq).cell? ⟨g5, k - 7, none⟩ = some (.int .u32 (x7 : Nat)) := c7
          replace c16 : (wr.drewN nq).cell? ⟨g5, k - 16, none⟩ = some (.int .u32 (x16 : Nat)) := c16
          have NV := Lib.hid (nextv_int x16 x15 x7 x2)
          clear c15 HS CS
          generalize wr.drewN nq = W at *
          generalize Sha.mix x15 [7, 18] ^^^ x15 / 8 = s15 at *
          go_wp2
          go_quiet ((go_at_call 115; first | (with_reducible exact Calls.quiet_of (rotated_any x2 17 17 rfl _ l2 (by decide) (by decide))) | (with_reducible exact Calls.quiet_of (rotated_any x2 19 19 rfl _ l2 (by decide) (by decide)))))
          rw [sig1024 x2 l2 17 19]
          have HS2 : Hid (OWd w (Sha.schedN bs k) k (.slice (some ⟨g5, 0, none⟩) k c5) (W.drewN nq)) := Lib.hid ⟨HS1.out.row, below_drewN' HS1.out.below nq⟩
          replace c7 : (W.drewN nq).cell? ⟨g5, k - 7, none⟩ = some (.int .u32 (x7 : Nat)) := c7
          replace c16 : (W.drewN nq).cell? ⟨g5, k - 16, none⟩ = some (.int .u32 (x16 : Nat)) := c16
          clear c2 HS1
          generalize W.drewN nq = W1 at *
          generalize Sha.mix x2 [17, 19] ^^^ x2 / 1024 = s2 at *
          go_wp2
          go_region_held3 (fun w' => w'.cell? ⟨g5, k - 16, none⟩ = some (.int .u32 (x16 : Nat)) ∧ w'.cell? ⟨g5, k - 7, none⟩ = some (.int .u32 (x7 : Nat)))
            ((first | (with_reducible exact ⟨c16, c7⟩) | (with_reducible exact ⟨keepA c16, keepA c7⟩) | (with_reducible exact ⟨keepA0 c16, keepA0 c7⟩) | (with_reducible exact ⟨d16, d7⟩) | go_keep))
            ((refine step_append_keep (by rfl) _ _ _ (by rfl) w.heap.size 156 i0 _ 4 Tryz.underlying157 hi hz0 hz1 hz2 rfl g5 k c5 _ (by rfl) (by first | exact (HS2.out.row.alloc _).drew | exact HS2.out.row.drew.alloc _ | exact HS2.out.row.alloc _) ⟨W1.heap.size, 0, none⟩ 1 1 [.int .u32 ((Sha.nextv x16 x15 x7 x2 : Nat) : Int)] (by rfl) (by rfl) (news_one' (congrArg (Value.int .u32) NV.out) (by first | exact heap_alloc_new _ _ | (rw [drewHeap]; exact heap_alloc_new _ _))) (by simp [Value.oneCell']) (by simp only [maxLen]; omega) (by omega) (by have := HS2.out.below.size; simp; omega) ?_
              intro v5 W2 hown hgr hkp
              have d16 : W2.cell? ⟨g5, k - 16, none⟩ = some (.int .u32 (x16 : Nat)) := (hkp _ (by omega)).trans (by first | exact keepA c16 | exact keepA0 c16)
              have d7 : W2.cell? ⟨g5, k - 7, none⟩ = some (.int .u32 (x7 : Nat)) := (hkp _ (by omega)).trans (by first | exact keepA c7 | exact keepA0 c7)))
          have O2 := Lib.hid hown
          have G2 : Hid ((W1.alloc _).grownBy W2 (some g5)) := Lib.hid (by first | exact hgr | exact grown_of_drew hgr)
          clear hown hgr hkp d16 d7 c16 c7 m2 m7 m15 m16 t2 t7 t15 t16 NV
          go_wp2
          go_roundw
          case rel =>
            have R : OWd w (Sha.schedN bs (k + 1)) (k + 1) v5 W2 := HS2.out.push _ [Sha.nextv x16 x15 x7 x2] O2.out N.out G2.out
            first | exact ⟨k + 1, by omega, by omega, by go_num, R⟩ | ((repeat apply Exists.intro); exact ⟨⟨k + 1, by omega, by omega, by go_num, R⟩, rfl⟩)
          case measure => simp [intOf]; omega
        · obtain rfl : k = 64 := by omega
          rw [show ((64 : Nat) : Int) = 64 from rfl]
          have hHc : ∀ W, Below w.heap.size w W → ∀ j u, (wv H)[j]? = some u → W.cell? ((⟨gh, oh, none⟩ : Addr).add j) = some u := fun W hW j u hu => by
            have hadd : (⟨gh, oh, none⟩ : Addr).add j = ⟨gh, oh + j, none⟩ := by
              unfold Addr.add
              by_cases h : j = 0
              · subst h; simp
              · simp [h]
            rw [hadd, hW.cell (p := ⟨gh, oh + j, none⟩) hgh]
            simp only [wv, List.getElem?_map, Option.map_eq_some_iff] at hu
            obtain ⟨x, hx, rfl⟩ := hu
            exact HCH.out j x hx
          have HHc := Lib.hid hHc
          have HwH : Hid ((wv H).length = 8 * 1) := Lib.hid (by simp [wv, HLEN.out])
          have hone : ∀ u ∈ wv H, u.oneCell' = true := fun u hu => by
            simp only [wv, List.mem_map] at hu
            obtain ⟨y, _, rfl⟩ := hu
            rfl
          have HONE := Lib.hid hone
          clear hHc hone
          go_wp2_with (first
            | (go_at_call 116
               refine (constants_any _).mono ?_
               rintro e Wc ⟨rfl, hWc⟩
               have BWc := Lib.hid (show Below w.heap.size w Wc by rw [← hWc]; exact HS.out.below.alloc HS.out.below.size _)
               have KC : Hid (∀ (j : Nat) (x : Nat), Sha.K[j]? = some x → Wc.cell? ⟨wr.heap.size, j, none⟩ = some (.int .u32 (x : Int))) := Lib.hid (fun j x hj => by rw [← hWc, cellOf (allocAt _ rfl)]; simp [wv, hj])
               have SC : Hid (∀ (j : Nat) (x : Nat), (Sha.schedN bs 64)[j]? = some x → Wc.cell? ⟨g5, j, none⟩ = some (.int .u32 (x : Int))) := Lib.hid (fun j x hj => by rw [← hWc]; exact keepA0 (CS.out j x hj))
               have zc : wr.heap.size < Wc.heap.size := by rw [← hWc]; simp
               have zg : g5 < Wc.heap.size := by omega
               clear hWc)
            | (at_builtin; refine wpList_append_own _ rfl (.tmp 122) (.tmp 123) 157 rfl Wc.heap.size 156 i0 _ 1 4 Tryz.underlying157 hi hz0 hz1 hz2 rfl (by decide) (.slice none 0 0) 0 [] rfl (World.ownsRow_nil _ _ _ _) ⟨gh, oh, none⟩ 8 ch (wv H) rfl HwH.out (HHc.out Wc BWc.out) HONE.out (by simp only [maxLen]; omega) (by omega) (Nat.le_refl _) ?_
               intro v1 W2 hown hgr _
               have O1 : Hid (OWd Wc H 8 v1 W2) := Lib.hid ⟨by simpa using hown, (Below.refl Wc.heap.size Wc).grown hgr (Nat.le_refl _) (by simp [Value.ownBlock])⟩
               clear hown hgr))
          have V0 : Hid (V8 Wc (Sha.rounds (Sha.schedN bs 64) H 0) v1 W2) := Lib.hid (by
            obtain ⟨b, cp, e, h1, h2, h3⟩ := O1.out.form (by omega)
            exact ⟨⟨b, cp, e, h1, h2, h3⟩, O1.out.below⟩)
          obtain ⟨gk, hgk⟩ : ∃ gk, wr.heap.size = gk := ⟨_, rfl⟩
          rw [hgk] at KC zc ⊢
          have sml := Sha.sched_small hb 64
          have sln := Sha.schedN_length bs 64
          have HBLK : Hid (Sha.blk H bs = Sha.addV H (Sha.rounds (Sha.schedN bs 64) H 64)) := Lib.hid rfl
          have HSL := Lib.hid sln
          have HSM := Lib.hid sml
          generalize Sha.schedN bs 64 = S at *
          clear HS CS O1 HHc HwH HONE hgk sln sml hg5 hc5 hlt2 hk0 hk
          go_loopw [11, 12, 13, 14, 15, 16] (fun v i _ _ _ _ wr => ∃ k : Nat, k ≤ 64 ∧ i = .int .i64 k ∧ V8 Wc (Sha.rounds S H k) v wr) (fun _ i _ _ _ _ _ => 64 - (intOf i).toNat)
          case atStart => exact ⟨0, by omega, rfl, V0.out⟩
          case round =>
            clear V0
            obtain ⟨k, hk, rfl, hV⟩ := hrel
            obtain ⟨⟨gv, cv, rfl, hcv, hgv, hcs⟩, hbel⟩ := hV
            have HB := Lib.hid hbel
            have CS := Lib.hid hcs
            clear hbel hcs
            by_cases hlt : k < 64
            · have hrl := Sha.rounds_length S H HLEN.out k
              have hrs := Sha.rounds_small S H hHs k
              have N : Hid (Sha.rounds S H (k + 1) = Sha.rd (Sha.K.getD k 0) (S.getD k 0) (Sha.rounds S H k)) := Lib.hid rfl
              have lk : Sha.K.getD k 0 < 4294967296 := Sha.getD_lt Sha.K_lt k
              have lx : S.getD k 0 < 4294967296 := Sha.getD_lt HSM.out k
              have ck : wr.cell? ⟨gk, k, none⟩ = some (.int .u32 (Sha.K.getD k 0 : Nat)) := (HB.out.cell (p := ⟨gk, k, none⟩) zc).trans (KC.out k _ (by rw [List.getD_eq_getElem?_getD, List.getElem?_eq_getElem (show k < Sha.K.length from hlt)]; rfl))
              have cx : wr.cell? ⟨g5, k, none⟩ = some (.int .u32 (S.getD k 0 : Nat)) := (HB.out.cell (p := ⟨g5, k, none⟩) zg).trans (SC.out k _ (by rw [List.getD_eq_getElem?_getD, List.getElem?_eq_getElem (show k < S.length by rw [HSL.out]; exact hlt)]; rfl))
              obtain ⟨v0, v1, v2, v3, v4, v5, v6, v7, hV⟩ := len8 hrl
              rw [hV] at CS N hrs
              clear hV hrl
              have c0 : wr.cell? ⟨gv, 0, none⟩ = some (.int .u32 (v0 : Nat)) := CS.out 0 v0 rfl
              have c1 : wr.cell? ⟨gv, 1, none⟩ = some (.int .u32 (v1 : Nat)) := CS.out 1 v1 rfl
              have c2 : wr.cell? ⟨gv, 2, none⟩ = some (.int .u32 (v2 : Nat)) := CS.out 2 v2 rfl
              have c3 : wr.cell? ⟨gv, 3, none⟩ = some (.int .u32 (v3 : Nat)) := CS.out 3 v3 rfl
              have c4 : wr.cell? ⟨gv, 4, none⟩ = some (.int .u32 (v4 : Nat)) := CS.out 4 v4 rfl
              have c5 : wr.cell? ⟨gv, 5, none⟩ = some (.int .u32 (v5 : Nat)) := CS.out 5 v5 rfl
              have c6 : wr.cell? ⟨gv, 6, none⟩ = some (.int .u32 (v6 : Nat)) := CS.out 6 v6 rfl
              have c7 : wr.cell? ⟨gv, 7, none⟩ = some (.int .u32 (v7 : Nat)) := CS.out 7 v7 rfl
              have l0 := hrs v0 (by simp)
              have l1 := hrs v1 (by simp)
              have l2 := hrs v2 (by simp)
              have l4 := hrs v4 (by simp)
              have l5 := hrs v5 (by simp)
              have l6 := hrs v6 (by simp)
              have l7 := hrs v7 (by simp)
              have q0 : (k : Int) < 64 := by omega
              generalize S.getD k 0 = x at *
              generalize Sha.K.getD k 0 = kk at *
              clear hrs CS
              go_wp2
              go_quiet ((go_at_call 115; first | (with_reducible exact Calls.quiet_of (rotated_any v4 6 6 rfl _ l4 (by decide) (by decide))) | (with_reducible exact Calls.quiet_of (rotated_any v4 11 11 rfl _ l4 (by decide) (by decide))) | (with_reducible exact Calls.quiet_of (rotated_any v4 25 25 rfl _ l4 (by decide) (by decide)))))
              rw [mix3_int v4 l4 6 11 25, t_int2 v4 v5 v6 v7 kk x l4 l5 l6 l7]
              have HB1 := Lib.hid (below_drewN' HB.out nq)
              replace c1 : (wr.drewN nq).cell? ⟨gv, 1, none⟩ = some (.int .u32 (v1 : Nat)) := c1
              replace c2 : (wr.drewN nq).cell? ⟨gv, 2, none⟩ = some (.int .u32 (v2 : Nat)) := c2
              replace c3 : (wr.drewN nq).cell? ⟨gv, 3, none⟩ = some (.int .u32 (v3 : Nat)) := c3
              replace c5 : (wr.drewN nq).cell? ⟨gv, 5, none⟩ = some (.int .u32 (v5 : Nat)) := c5
              replace c6 : (wr.drewN nq).cell? ⟨gv, 6, none⟩ = some (.int .u32 (v6 : Nat)) := c6
              have lt : Sha.tval v4 v5 v6 v7 kk x < 4294967296 := Sha.tval_lt _ _ _ _ _ _
              rw [rd_eq] at N
              generalize Sha.tval v4 v5 v6 v7 kk x = t at *
              clear HB c0 c4 c7 ck cx
              generalize wr.drewN nq = W3 at *
              go_wp2
              go_quiet ((go_at_call 115; first | (with_reducible exact Calls.quiet_of (rotated_any v0 2 2 rfl _ l0 (by decide) (by decide))) | (with_reducible exact Calls.quiet_of (rotated_any v0 13 13 rfl _ l0 (by decide) (by decide))) | (with_reducible exact Calls.quiet_of (rotated_any v0 22 22 rfl _ l0 (by decide) (by decide)))))
              rw [mix3_int v0 l0 2 13 22]
              rw [u_int2 v0 v1 v2 l0 l1 l2]
              have HB2 := Lib.hid (below_drewN' HB1.out nq)
              replace c1 : (W3.drewN nq).cell? ⟨gv, 1, none⟩ = some (.int .u32 (v1 : Nat)) := c1
              replace c2 : (W3.drewN nq).cell? ⟨gv, 2, none⟩ = some (.int .u32 (v2 : Nat)) := c2
              replace c3 : (W3.drewN nq).cell? ⟨gv, 3, none⟩ = some (.int .u32 (v3 : Nat)) := c3
              replace c5 : (W3.drewN nq).cell? ⟨gv, 5, none⟩ = some (.int .u32 (v5 : Nat)) := c5
              replace c6 : (W3.drewN nq).cell? ⟨gv, 6, none⟩ = some (.int .u32 (v6 : Nat)) := c6
              have lu : Sha.uval v0 v1 v2 < 4294967296 := Sha.uval_lt _ _ _
              generalize Sha.uval v0 v1 v2 = u at *
              clear HB1
              generalize W3.drewN nq = W4 at *
              go_wp2
              go_still_tail 22, (by kernel_rfl)
              change wpList _ _ _ _ _ W4.drew
              have HB3 := Lib.hid (HB2.out.drew)
              clear HB2 c1 c2 c3 c5 c6
              generalize W4.drew = W5 at *
              go_wp2
              go_roundw
              case rel =>
                have R : V8 Wc (Sha.rounds S H (k + 1)) (.slice (some ⟨W5.heap.size, 0, none⟩) 8 8) (W5.alloc (.cells #[.int .u32 (((t : Int) + (u : Int)) % 4294967296), .int .u32 v0, .int .u32 v1, .int .u32 v2, .int .u32 (((v3 : Int) + (t : Int)) % 4294967296), .int .u32 v4, .int .u32 v5, .int .u32 v6] 156)) := ⟨⟨W5.heap.size, 8, rfl, Nat.le_refl _, by simp, fun j y hj => by
                  rw [N.out] at hj
                  rw [cellOf (allocAt _ rfl)]
                  match j, hj with
                  | 0, hj => injection hj with hj; subst hj; simp
                  | 1, hj => injection hj with hj; subst hj; rfl
                  | 2, hj => injection hj with hj; subst hj; rfl
                  | 3, hj => injection hj with hj; subst hj; rfl
                  | 4, hj => injection hj with hj; subst hj; simp
                  | 5, hj => injection hj with hj; subst hj; rfl
                  | 6, hj => injection hj with hj; subst hj; rfl
                  | 7, hj => injection hj with hj; subst hj; rfl
                  | j + 8, hj => simp at hj⟩, HB3.out.alloc HB3.out.size _⟩
                first | exact ⟨k + 1, by omega, by go_num, R⟩ | ((repeat apply Exists.intro); exact ⟨⟨k + 1, by omega, by go_num, R⟩, rfl⟩)
              case measure => simp [intOf]; omega
            · obtain rfl : k = 64 := by omega
              have hrl := Sha.rounds_length S H HLEN.out 64
              have hHc : ∀ (j : Nat) (x : Nat), H[j]? = some x → wr.cell? ⟨gh, oh + j, none⟩ = some (.int .u32 (x : Int)) := fun j x hj => by
                rw [HB.out.cell (p := ⟨gh, oh + j, none⟩) (Nat.lt_of_lt_of_le hgh BWc.out.size), BWc.out.cell (p := ⟨gh, oh + j, none⟩) hgh]
                exact HCH.out j x hj
              have hgw : gh < wr.heap.size := Nat.lt_of_lt_of_le hgh (Nat.le_trans BWc.out.size HB.out.size)
              have HHc := Lib.hid hHc
              have BW := Lib.hid (BWc.out.trans (HB.out.mono BWc.out.size))
              have HRL := Lib.hid hrl
              generalize Sha.rounds S H 64 = V at *
              clear hHc HB BWc KC SC HSL HSM hrl
              obtain ⟨wo, rfl⟩ : ∃ wo : World, wo = wr := ⟨_, rfl⟩
              go_wp2
              go_loopw [17, 18] (fun ov i wq => ∃ k : Nat, k ≤ 8 ∧ i = .int .i64 k ∧ OWd wo ((Sha.addV H V).take k) k ov wq) (fun _ i _ => 8 - (intOf i).toNat)
              case atStart => exact ⟨0, by omega, rfl, World.ownsRow_nil _ _ _ _, Below.refl _ _⟩
              case round =>
                obtain ⟨k, hk, rfl, hO⟩ := hrel
                have HO := Lib.hid hO
                clear hO
                by_cases hlt : k < 8
                · have c0 : wr.cell? ⟨gh, oh + k, none⟩ = some (.int .u32 (H.getD k 0 : Nat)) := (HO.out.below.cell (p := ⟨gh, oh + k, none⟩) hgw).trans (HHc.out k _ (by rw [List.getD_eq_getElem?_getD, List.getElem?_eq_getElem (show k < H.length by rw [HLEN.out]; exact hlt)]; rfl))
                  have c1 : wr.cell? ⟨gv, k, none⟩ = some (.int .u32 (V.getD k 0 : Nat)) := (HO.out.below.cell (p := ⟨gv, k, none⟩) hgv).trans (CS.out k _ (by rw [List.getD_eq_getElem?_getD, List.getElem?_eq_getElem (show k < V.length by rw [HRL.out]; exact hlt)]; rfl))
                  have N := Lib.hid (addV_take H V HLEN.out HRL.out k hlt)
                  have hne1 : ∀ j, u17.ownBlock = some j → j ≠ gh := fun j e => by have := (HO.out.row.lt j e).1; omega
                  have hne2 : ∀ j, u17.ownBlock = some j → j ≠ gv := fun j e => by have := (HO.out.row.lt j e).1; omega
                  have q0 : (k : Int) < 8 := by omega
                  generalize H.getD k 0 = x at *
                  generalize V.getD k 0 = y at *
                  go_wp2
                  go_region_held3 (fun w' => w'.cell? ⟨gh, oh + k, none⟩ = some (.int .u32 (x : Nat)) ∧ w'.cell? ⟨gv, k, none⟩ = some (.int .u32 (y : Nat)))
                    ((first | (with_reducible exact ⟨c0, c1⟩) | (with_reducible exact ⟨keepA c0, keepA c1⟩) | (with_reducible exact ⟨keepA0 c0, keepA0 c1⟩) | (with_reducible exact ⟨d0, d1⟩) | go_keep))
                    ((refine step_append_lies _ (by rfl) _ _ _ (by rfl) wo.heap.size 156 i0 _ 1 4 Tryz.underlying157 hi hz0 hz1 hz2 rfl (by omega) u17 k _ (by rfl) (by first | exact (HO.out.row.alloc _).drew | exact HO.out.row.drew.alloc _ | exact HO.out.row.alloc _) ⟨wr.heap.size, 0, none⟩ 1 1 [.int .u32 (((x + y) % 4294967296 : Nat) : Int)] (by rfl) (by rfl) (news_one' (congrArg (Value.int .u32) (wrap_add x y)) (by first | exact heap_alloc_new _ _ | (rw [drewHeap]; exact heap_alloc_new _ _))) (by simp [Value.oneCell']) (by omega) (by simp only [maxLen]; omega) (by omega) (by have := HO.out.below.size; simp; omega) (wr.heap.size + 1) (by simp) ?_
                      intro gg cc W2 hown hgr hat hlt6
                      have d0 := keepG hgr (by first | exact keepA c0 | exact keepA0 c0) hne1
                      have d1 := keepG hgr (by first | exact keepA c1 | exact keepA0 c1) hne2))
                  have O2 := Lib.hid hown
                  have G2 : Hid ((wr.alloc _).grownBy W2 u17.ownBlock) := Lib.hid (by first | exact hgr | exact grown_of_drew hgr)
                  clear hown hgr hat hlt6 d0 d1 c0 c1 hne1 hne2
                  go_wp2
                  go_roundw
                  case rel =>
                    have R : OWd wo ((Sha.addV H V).take (k + 1)) (k + 1) (.slice (some ⟨gg, 0, none⟩) (k + 1) cc) W2 := HO.out.push _ [(x + y) % 4294967296] O2.out N.out G2.out
                    first | exact ⟨k + 1, by omega, by go_num, R⟩ | ((repeat apply Exists.intro); exact ⟨⟨k + 1, by omega, by go_num, R⟩, rfl⟩)
                  case measure => simp [intOf]; omega
                · obtain rfl : k = 8 := by omega
                  go_wp2
                  go_ret
                  have h1 := HO.out
                  rw [List.take_of_length_le (by simp [Sha.addV, HLEN.out, HRL.out]), ← HBLK.out] at h1
                  exact ⟨_, rfl, own_base h1.row BW.out.size, BW.out.trans (h1.below.mono BW.out.size)⟩
end Go.Proofs.YthlmgookaljgnaaGreatDoor
namespace Dig

/-- the greatest power of two that is less than n, for n at least 2 -/
def lft (n : Nat) : Nat := 2 ^ Nat.log2 (n - 1)

theorem lft_pos (n : Nat) : 0 < lft n := Nat.two_pow_pos _
theorem lft_lt {n : Nat} (h : 2 ≤ n) : lft n < n := by
  have := Nat.log2_self_le (n := n - 1) (by omega)
  unfold lft; omega
theorem lft_ge {n : Nat} (h : 2 ≤ n) : n ≤ 2 * lft n := by
  have := Nat.lt_log2_self (n := n - 1)
  unfold lft; rw [Nat.pow_succ] at this; omega
/-- what marks it out -/
theorem lft_unique {n j : Nat} (h1 : 2 ^ j < n) (h2 : n ≤ 2 * 2 ^ j) : lft n = 2 ^ j := by
  unfold lft
  congr 1
  apply (Nat.log2_eq_iff (by have := Nat.two_pow_pos j; omega)).2
  rw [Nat.pow_succ]
  omega

section
variable {α D : Type} (leaf : α → D) (node : D → D → D) (emp : D)

def rootF : Nat → List α → D
  | 0, _ => emp
  | _ + 1, [] => emp
  | _ + 1, [x] => leaf x
  | k + 1, x :: y :: l => node (rootF k ((x :: y :: l).take (lft (l.length + 2)))) (rootF k ((x :: y :: l).drop (lft (l.length + 2))))
def root (l : List α) : D := rootF leaf node emp l.length l

theorem rootF_fuel : ∀ (k : Nat) (l : List α), l.length ≤ k → rootF leaf node emp k l = root leaf node emp l := by
  intro k
  induction k using Nat.strongRecOn with
  | ind k ih =>
    intro l hl
    match k, l, hl with
    | 0, [], _ => rfl
    | k + 1, [], _ => rfl
    | k + 1, [x], _ => rfl
    | k + 1, x :: y :: l, hl =>
      have h1 := lft_lt (n := l.length + 2) (by omega)
      have h2 := lft_pos (l.length + 2)
      simp only [List.length_cons] at hl
      show node _ _ = node _ _
      have e1 : ∀ j, l.length + 1 ≤ j → j < k + 1 → rootF leaf node emp j ((x :: y :: l).take (lft (l.length + 2))) = root leaf node emp ((x :: y :: l).take (lft (l.length + 2))) := fun j h h' =>
        ih j h' _ (by simp only [List.length_take, List.length_cons]; omega)
      have e2 : ∀ j, l.length + 1 ≤ j → j < k + 1 → rootF leaf node emp j ((x :: y :: l).drop (lft (l.length + 2))) = root leaf node emp ((x :: y :: l).drop (lft (l.length + 2))) := fun j h h' =>
        ih j h' _ (by simp only [List.length_drop, List.length_cons]; omega)
      rw [e1 k (by omega) (by omega), e2 k (by omega) (by omega)]
      show _ = node (rootF leaf node emp (l.length + 1) _) (rootF leaf node emp (l.length + 1) _)
      rw [e1 (l.length + 1) (by omega) (by omega), e2 (l.length + 1) (by omega) (by omega)]

theorem root_nil : root leaf node emp [] = emp := rfl
theorem root_one (x : α) : root leaf node emp [x] = leaf x := rfl
theorem root_two (l : List α) (h : 2 ≤ l.length) :
    root leaf node emp l = node (root leaf node emp (l.take (lft l.length))) (root leaf node emp (l.drop (lft l.length))) := by
  match l, h with
  | x :: y :: l, _ =>
    have h1 := lft_lt (n := l.length + 2) (by omega)
    have h2 := lft_pos (l.length + 2)
    show node _ _ = node _ _
    rw [rootF_fuel, rootF_fuel]
    · rfl
    · simp only [List.length_drop, List.length_cons]; omega
    · simp only [List.length_take, List.length_cons]; omega

/-! ### The stack -/
/-- the complete parts of a list, the largest first, each with its size -/
def stkF : Nat → List α → List (D × Nat)
  | 0, _ => []
  | k + 1, l => if l.length = 0 then [] else
      (root leaf node emp (l.take (2 ^ Nat.log2 l.length)), 2 ^ Nat.log2 l.length) :: stkF k (l.drop (2 ^ Nat.log2 l.length))
def stk (l : List α) : List (D × Nat) := stkF leaf node emp l.length l

theorem stkF_fuel : ∀ (k : Nat) (l : List α), l.length ≤ k → stkF leaf node emp k l = stk leaf node emp l := by
  intro k
  induction k using Nat.strongRecOn with
  | ind k ih =>
    intro l hl
    match k, hl with
    | 0, hl => have : l = [] := List.eq_nil_of_length_eq_zero (by omega)
               subst this; rfl
    | k + 1, hl =>
      by_cases h0 : l.length = 0
      · have : l = [] := List.eq_nil_of_length_eq_zero h0
        subst this; rfl
      · obtain ⟨m, hm⟩ : ∃ m, l.length = m + 1 := ⟨l.length - 1, by omega⟩
        have hp := Nat.two_pow_pos (Nat.log2 l.length)
        have e : ∀ j, m ≤ j → j < k + 1 → stkF leaf node emp j (l.drop (2 ^ Nat.log2 l.length)) = stk leaf node emp (l.drop (2 ^ Nat.log2 l.length)) := fun j h h' =>
          ih j h' _ (by rw [List.length_drop]; omega)
        unfold stk
        rw [hm]
        simp only [stkF, if_neg h0]
        rw [e k (by omega) (by omega), e m (by omega) (by omega)]

theorem stk_nil : stk leaf node emp [] = [] := rfl
theorem stk_cons (l : List α) (h : l ≠ []) : stk leaf node emp l =
    (root leaf node emp (l.take (2 ^ Nat.log2 l.length)), 2 ^ Nat.log2 l.length) :: stk leaf node emp (l.drop (2 ^ Nat.log2 l.length)) := by
  have h0 : l.length ≠ 0 := fun e => h (List.eq_nil_of_length_eq_zero e)
  obtain ⟨m, hm⟩ : ∃ m, l.length = m + 1 := ⟨l.length - 1, by omega⟩
  have hp := Nat.two_pow_pos (Nat.log2 l.length)
  conv => lhs; unfold stk
  rw [hm]
  simp only [stkF, if_neg h0]
  rw [stkF_fuel _ _ _ _ _ (by rw [List.length_drop]; omega), hm]

/-- the sum of the nodes from the right -/
def foldR : List (D × Nat) → D
  | [] => emp
  | [(r, _)] => r
  | (r, _) :: x :: l => node r (foldR (x :: l))

theorem foldR_stk : ∀ (n : Nat) (l : List α), l.length = n → foldR node emp (stk leaf node emp l) = root leaf node emp l := by
  intro n
  induction n using Nat.strongRecOn with
  | ind n ih =>
    intro l hl
    by_cases hn : l = []
    · subst hn; rfl
    have h0 : l.length ≠ 0 := fun e => hn (List.eq_nil_of_length_eq_zero e)
    rw [stk_cons leaf node emp l hn]
    have hp := Nat.two_pow_pos (Nat.log2 l.length)
    have h1 := Nat.log2_self_le h0
    have h2 := Nat.lt_log2_self (n := l.length)
    rw [Nat.pow_succ] at h2
    by_cases he : 2 ^ Nat.log2 l.length = l.length
    · rw [he, List.drop_length, List.take_length, stk_nil]; rfl
    · have hd : l.drop (2 ^ Nat.log2 l.length) ≠ [] := by
        intro e; have := congrArg List.length e; rw [List.length_drop] at this; simp at this; omega
      have hi := ih (l.drop (2 ^ Nat.log2 l.length)).length (by rw [List.length_drop]; omega) _ rfl
      have h3 : 2 ≤ l.length := by
        rcases Nat.lt_or_ge l.length 2 with h | h
        · exfalso
          have : l.length = 1 := by omega
          rw [this] at he; exact he (by decide)
        · exact h
      have hlf : lft l.length = 2 ^ Nat.log2 l.length := lft_unique (by omega) (by omega)
      rw [root_two leaf node emp l h3, hlf, ← hi]
      rw [stk_cons leaf node emp _ hd]
      rfl

/-- merging at the end of the stack: the last two parts of one size become one, again and again (k bounds the rounds) -/
def mergeF : Nat → List (D × Nat) → List (D × Nat)
  | 0, s => s
  | k + 1, s => match s.reverse with
    | (b, m) :: (a, n) :: r => if n = m then mergeF k (r.reverse ++ [(node a b, 2 * m)]) else s
    | _ => s

/-- what merging does, as a relation -/
inductive Merges : List (D × Nat) → List (D × Nat) → Prop
  | stop {s} (h : ∀ p a b m, s ≠ p ++ [(a, m), (b, m)]) : Merges s s
  | step {p a b m s'} (h : Merges (p ++ [(node a b, 2 * m)]) s') : Merges (p ++ [(a, m), (b, m)]) s'

theorem Merges.front (x : D × Nat) : ∀ {s s' : List (D × Nat)}, Merges node s s' → (∀ a m r, s' = (a, m) :: r → r = [] → x.2 ≠ m) → s' ≠ [] → Merges node (x :: s) (x :: s') := by
  intro s s' h
  induction h with
  | stop h =>
    intro hx hne
    refine .stop fun p a b m e => ?_
    match p with
    | [] =>
      injection e with e1 e2
      rename_i s
      exact hx b m [] e2 rfl (by rw [e1])
    | y :: p =>
      injection e with e1 e2
      exact h p a b m e2
  | step _ ih => intro hx hne; exact .step (p := x :: _) (ih hx hne)

theorem stk_sizes : ∀ (n : Nat) (l : List α), l.length = n → ∀ p ∈ stk leaf node emp l, p.2 ≤ l.length := by
  intro n
  induction n using Nat.strongRecOn with
  | ind n ih =>
    intro l hl p hp
    by_cases hn : l = []
    · subst hn; cases hp
    have h0 : l.length ≠ 0 := fun e => hn (List.eq_nil_of_length_eq_zero e)
    have h1 := Nat.log2_self_le h0
    have hpos := Nat.two_pow_pos (Nat.log2 l.length)
    rw [stk_cons leaf node emp l hn] at hp
    rcases List.mem_cons.1 hp with e | hp
    · rw [e]; exact h1
    · have := ih (l.drop (2 ^ Nat.log2 l.length)).length (by rw [List.length_drop]; omega) _ rfl p hp
      rw [List.length_drop] at this; omega

/-- one part alone: the list is complete -/
theorem stk_single {l : List α} {p : D × Nat} (h : stk leaf node emp l = [p]) : l.length = p.2 ∧ p.2 = 2 ^ Nat.log2 l.length ∧ p.1 = root leaf node emp l := by
  have hn : l ≠ [] := by intro e; subst e; cases h
  have h0 : l.length ≠ 0 := fun e => hn (List.eq_nil_of_length_eq_zero e)
  have h1 := Nat.log2_self_le h0
  rw [stk_cons leaf node emp l hn] at h
  injection h with e1 e2
  have hd : l.drop (2 ^ Nat.log2 l.length) = [] := by
    apply Classical.byContradiction
    intro hd
    rw [stk_cons leaf node emp _ hd] at e2
    cases e2
  have hlen := congrArg List.length hd
  rw [List.length_drop] at hlen
  simp at hlen
  have he : 2 ^ Nat.log2 l.length = l.length := by omega
  subst e1
  refine ⟨he.symm, rfl, ?_⟩
  simp only [he, List.take_length]

theorem stk_length : ∀ (n : Nat) (l : List α), l.length = n → (stk leaf node emp l).length ≤ l.length := by
  intro n
  induction n using Nat.strongRecOn with
  | ind n ih =>
    intro l hl
    by_cases hn : l = []
    · subst hn; exact Nat.le_refl _
    have h0 : l.length ≠ 0 := fun e => hn (List.eq_nil_of_length_eq_zero e)
    have h1 := Nat.log2_self_le h0
    have hpos := Nat.two_pow_pos (Nat.log2 l.length)
    rw [stk_cons leaf node emp l hn, List.length_cons]
    have := ih (l.drop (2 ^ Nat.log2 l.length)).length (by rw [List.length_drop]; omega) _ rfl
    rw [List.length_drop] at this; omega
theorem Merges.grows {s s' : List (D × Nat)} (h : Merges node s s') : ∀ x ∈ s, ∃ y ∈ s', x.2 ≤ y.2 := by
  induction h with
  | stop _ => exact fun x hx => ⟨x, hx, Nat.le_refl _⟩
  | @step p a b m s' _ ih =>
    intro x hx
    simp only [List.mem_append, List.mem_cons, List.not_mem_nil, or_false] at hx
    rcases hx with hx | rfl | rfl
    · exact ih x (by simp [hx])
    · obtain ⟨y, h1, h2⟩ := ih (node a b, 2 * m) (by simp)
      exact ⟨y, h1, by simp at h2 ⊢; omega⟩
    · obtain ⟨y, h1, h2⟩ := ih (node a b, 2 * m) (by simp)
      exact ⟨y, h1, by simp at h2 ⊢; omega⟩

theorem stk_push : ∀ (n : Nat) (l : List α) (x : α), l.length = n → Merges node (stk leaf node emp l ++ [(leaf x, 1)]) (stk leaf node emp (l ++ [x])) := by
  intro n
  induction n using Nat.strongRecOn with
  | ind n ih =>
    intro l x hl
    by_cases hn : l = []
    · subst hn
      refine .stop fun p a b m e => ?_
      have := congrArg List.length e
      simp [stk_nil] at this
    have h0 : l.length ≠ 0 := fun e => hn (List.eq_nil_of_length_eq_zero e)
    have hpos := Nat.two_pow_pos (Nat.log2 l.length)
    have h1 := Nat.log2_self_le h0
    have h2 := Nat.lt_log2_self (n := l.length)
    rw [Nat.pow_succ] at h2
    rw [stk_cons leaf node emp l hn]
    generalize hj : Nat.log2 l.length = j at *
    have hi := ih (l.drop (2 ^ j)).length (by rw [List.length_drop]; omega) (l.drop (2 ^ j)) x rfl
    have happ : l.drop (2 ^ j) ++ [x] = (l ++ [x]).drop (2 ^ j) := by
      rw [List.drop_append_of_le_length (by omega)]
    have htk : l.take (2 ^ j) = (l ++ [x]).take (2 ^ j) := by
      rw [List.take_append_of_le_length (by omega)]
    have hne : l ++ [x] ≠ [] := by simp
    by_cases hfull : l.length + 1 = 2 * 2 ^ j
    · -- the last part and the first one merge
      have hlen : (l.drop (2 ^ j) ++ [x]).length = 2 ^ j := by simp; omega
      have hsd : stk leaf node emp (l.drop (2 ^ j) ++ [x]) = [(root leaf node emp (l.drop (2 ^ j) ++ [x]), 2 ^ j)] := by
        have hq : ∀ q : List α, q.length = 2 ^ j → q ≠ [] → stk leaf node emp q = [(root leaf node emp q, 2 ^ j)] := fun q h hne => by
          rw [stk_cons leaf node emp q hne, h, Nat.log2_two_pow, List.drop_of_length_le (by omega), List.take_of_length_le (by omega)]
          rfl
        exact hq _ hlen (by simp)
      have hlen' : (l ++ [x]).length = 2 ^ (j + 1) := by rw [Nat.pow_succ]; simp; omega
      have hs : stk leaf node emp (l ++ [x]) = [(node (root leaf node emp (l.take (2 ^ j))) (root leaf node emp (l.drop (2 ^ j) ++ [x])), 2 * 2 ^ j)] := by
        have hq : ∀ q : List α, q.length = 2 ^ (j + 1) → q ≠ [] → stk leaf node emp q = [(root leaf node emp q, 2 ^ (j + 1))] := fun q h hne => by
          rw [stk_cons leaf node emp q hne, h, Nat.log2_two_pow, List.drop_of_length_le (by omega), List.take_of_length_le (by omega)]
          rfl
        rw [hq _ hlen' hne]
        rw [root_two leaf node emp _ (by rw [hlen', Nat.pow_succ]; omega)]
        have hlf : lft (l ++ [x]).length = 2 ^ j := lft_unique (by rw [hlen', Nat.pow_succ]; omega) (by rw [hlen', Nat.pow_succ]; omega)
        rw [hlf, ← htk, ← happ, Nat.pow_succ, Nat.mul_comm]
      rw [hsd] at hi
      rw [hs]
      -- the tail merges to one part; then the front one
      have front2 : ∀ {s s' : List (D × Nat)}, Merges node s s' → ∀ (r : D) (m : Nat), s' = [(r, m)] → ∀ a s'', Merges node [(a, m), (r, m)] s'' → Merges node ((a, m) :: s) s'' := by
        intro s s' h
        induction h with
        | stop h => intro r m e a s'' h''; subst e; exact h''
        | step _ ih2 => intro r m e a s'' h''; exact .step (p := (a, m) :: _) (ih2 r m e a s'' h'')
      refine front2 hi _ _ rfl _ _ ?_
      refine .step (p := []) (.stop fun p a b m e => ?_)
      have := congrArg List.length e
      simp at this
    · have hlog : Nat.log2 (l ++ [x]).length = j := by
        apply (Nat.log2_eq_iff (by simp)).2
        rw [Nat.pow_succ]; simp; omega
      rw [stk_cons leaf node emp (l ++ [x]) hne, hlog, ← happ, ← htk]
      refine Merges.front node _ hi ?_ ?_
      · intro a m r hs hr hm
        subst hr
        have := (stk_single leaf node emp hs).1
        simp only [List.length_append, List.length_drop, List.length_cons, List.length_nil] at this
        simp only at hm this
        omega
      · rw [stk_cons leaf node emp _ (by simp)]; simp
end
end Dig
namespace Go.Proofs.YthlmgookaljgnaaGreatDoor
open Go.RowKit
set_option linter.unusedVariables false

/-- a byte, and strings one after the other -/
def catB (m : UInt8) (l : List ByteArray) : ByteArray := ⟨(m :: l.flatMap (·.data.toList)).toArray⟩
def leafB (s : ByteArray) : ByteArray := sumB (catB 0 [s])
def nodeB (a b : ByteArray) : ByteArray := sumB (catB 1 [a, b])
def chainB (h r : ByteArray) : ByteArray := sumB (catB 2 [h, r])
theorem catB_size (m : UInt8) (l : List ByteArray) : (catB m l).size = 1 + (l.map (·.size)).sum := by
  show (m :: l.flatMap (·.data.toList)).toArray.size = _
  rw [List.size_toArray, List.length_cons, List.length_flatMap, Nat.add_comm]
  rfl

theorem _root_.Go.RowKit.Below.of_drew {B : Nat} {w w' : World} (h : Below B w.drew w') : Below B w w' := ⟨h.os, h.tape, h.output, h.size, h.block⟩
theorem _root_.Go.RowKit.Below.of_drewN {B n : Nat} {w w' : World} (h : Below B (w.drewN n) w') : Below B w w' := ⟨h.os, h.tape, h.output, h.size, h.block⟩

theorem join_empty (l : List (List UInt8)) : Lib.join l [] = l.flatten := by
  induction l with
  | nil => rfl
  | cons x l ih =>
    cases l with
    | nil => simp [Lib.join]
    | cons y l => simp [Lib.join] at ih ⊢; exact ih

set_option maxRecDepth 100000 in
set_option maxHeartbeats 2000000 in
theorem marked1_any (m : UInt8) (bm : Nat) (bk c : Nat) (xs : List ByteArray) (w : World) (hm : w.cell? ⟨bm, 0, none⟩ = some (.string ⟨#[m]⟩)) (hbm : bm < w.heap.size) (hcells : ∀ (j : Nat) x, xs[j]? = some x → w.cell? ⟨bk, 0 + j, none⟩ = some (.string x)) (hbk : bk < w.heap.size)
    (hN : xs.length ≤ c) (hlen : (xs.map (·.size)).sum ≤ 900000) (hx : xs.length ≤ 100000) (hR : RoundLaid w) :
    Calls Tryz.prog 96 #[.slice (some ⟨bk, 0, none⟩) xs.length c, .pointer (some ⟨bm, 0, none⟩)] w fun e w' => e = .returned (.string (sumB (catB m xs))) ∧ Below w.heap.size w w' := by
  have hjl : Lib.join (xs.map (·.data.toList)) (⟨#[]⟩ : ByteArray).data.toList = xs.flatMap (·.data.toList) := by
    rw [show (⟨#[]⟩ : ByteArray).data.toList = [] from rfl, join_empty, List.flatMap_def]
  have hfl : (xs.flatMap (·.data.toList)).length = (xs.map (·.size)).sum := by rw [List.length_flatMap]; rfl
  have JN := Lib.hid (fun W (hc : ∀ (j : Nat) x, xs[j]? = some x → W.cell? ⟨bk, 0 + j, none⟩ = some (.string x)) (hb : bk < W.heap.size) => Tryz.strings_Join bk 0 c xs ⟨#[]⟩ W hc hb (by omega) hN (by rw [hjl, hfl]; omega))
  rw [hjl] at JN
  have hcat : (⟨#[m]⟩ : ByteArray) ++ ⟨(xs.flatMap (·.data.toList)).toArray⟩ = catB m xs := by
    unfold catB
    apply ByteArray.ext
    simp
  obtain ⟨jn, hjn⟩ : ∃ jn : ByteArray, (⟨(xs.flatMap (·.data.toList)).toArray⟩ : ByteArray) = jn := ⟨_, rfl⟩
  have hjs : jn.size ≤ 900000 := by rw [← hjn]; show (xs.flatMap (·.data.toList)).toArray.size ≤ _; rw [List.size_toArray, hfl]; exact hlen
  have hjb : ¬ 9223372036854775807 < 1 + jn.size := by omega
  rw [hjn] at JN hcat
  clear hjn
  have SU := Lib.hid (fun W => Sum_any (catB m xs) (by rw [catB_size]; omega) W)
  rw [← hcat] at SU
  have HC := Lib.hid hcat
  have HR := Lib.hid hR
  have HCE := Lib.hid hcells
  clear hcat hjl hfl hcells hR
  go_enter Tryz.func96, Tryz.ntmps96
  go_wp2
  go_region_held3 (fun w' => w'.cell? ⟨bm, 0, none⟩ = some (.string ⟨#[m]⟩))
    ((first | go_keep))
    (first
      | (go_at_call 98
         refine (JN.out _ (by exact fun j x hj => HCE.out j x hj) (by exact hbk)).mono ?_
         rintro e w2 ⟨rfl, h2⟩
         have H2 : Hid (Below w.heap.size w w2) := Lib.hid h2.of_drew
         have hm2 : w2.cell? ⟨bm, 0, none⟩ = some (.string ⟨#[m]⟩) := (H2.out.cell (p := ⟨bm, 0, none⟩) hbm).trans hm
         clear h2)
      | (go_at_call 97
         refine (SU.out _ (HR.out.below H2.out)).mono ?_
         rintro e w3 ⟨rfl, h3⟩
         have H3 : Hid (Below w.heap.size w w3) := Lib.hid (H2.out.trans (h3.mono H2.out.size))
         have hm3 : w3.cell? ⟨bm, 0, none⟩ = some (.string ⟨#[m]⟩) := (H3.out.cell (p := ⟨bm, 0, none⟩) hbm).trans hm
         clear h3))
  rw [HC.out]
  go_wp2
  go_ret
  exact ⟨rfl, H3.out⟩

set_option maxHeartbeats 1000000 in
theorem marked_any (m : ByteArray) (w : World) :
    Calls Tryz.prog 79 #[.string m] w fun e w' => e = .returned (.func (.func 96) #[] #[.pointer (some ⟨w.heap.size, 0, none⟩)]) ∧ w.alloc (.cells #[.string m] 9) = w' := by
  go_enter Tryz.func79, Tryz.ntmps79
  go_wp2
  go_ret
  exact ⟨rfl, rfl⟩

theorem two_cells {w : World} (o : Obj) (t : TypeId) (xs : List ByteArray) : ∀ (j : Nat) x, xs[j]? = some x → ((w.alloc o).alloc (.cells (xs.map Value.string).toArray t)).cell? ⟨w.heap.size + 1, 0 + j, none⟩ = some (.string x) := fun j x hj => by
  rw [Nat.zero_add, cellOf (allocAt _ (by simp)) j]
  simp [hj]

set_option maxRecDepth 100000 in
set_option maxHeartbeats 1000000 in
theorem Chain_any (a b : ByteArray) (hs : a.size + b.size ≤ 900000) (w : World) (hR : RoundLaid w) :
    Calls Tryz.prog 54 #[.string a, .string b] w fun e w' => e = .returned (.string (chainB a b)) ∧ Below w.heap.size w w' := by
  have hb : Below w.heap.size w ((w.alloc (.cells #[.string ⟨#[2]⟩] 9)).alloc (.cells #[.string a, .string b] 9)) := ((Below.refl _ w).alloc (Nat.le_refl _) _).alloc (by simp) _
  have M := Lib.hid (marked1_any 2 w.heap.size (w.heap.size + 1) 2 [a, b] _ (by rw [cellOf (by rw [allocOld (by simp)]; exact allocAt _ rfl)]; rfl) (by simp; omega) (two_cells (w := w) (.cells #[.string ⟨#[2]⟩] 9) 9 [a, b]) (by simp) (by simp) (by simpa using hs) (by simp) (hR.below hb))
  have HB := Lib.hid hb
  clear hb hR
  go_enter Tryz.func54, Tryz.ntmps54
  go_wp2_with fail
  refine (marked_any _ _).mono ?_
  rintro e w' ⟨rfl, rfl⟩
  go_wp2_with fail
  refine M.out.mono ?_
  rintro e w' ⟨rfl, h2⟩
  have H2 := Lib.hid h2
  clear h2
  go_wp2_with fail
  go_ret
  exact ⟨rfl, HB.out.trans (H2.out.mono (by simp; omega))⟩
end Go.Proofs.YthlmgookaljgnaaGreatDoor
namespace Go.Proofs.YthlmgookaljgnaaGreatDoor
open Go.RowKit
set_option linter.unusedVariables false

theorem bitLenAux_log2 : ∀ (f x : Nat), 0 < x → x < 2 ^ f → Lib.bitLenAux f x = Nat.log2 x + 1
  | 0, x, h1, h2 => by omega
  | f + 1, x, h1, h2 => by
    rw [Lib.bitLenAux, if_neg (by omega)]
    by_cases h : x < 2
    · have : x = 1 := by omega
      subst this
      rw [show 1 / 2 = 0 from rfl]
      cases f <;> simp [Lib.bitLenAux, Nat.log2_def]
    · rw [bitLenAux_log2 f (x / 2) (by omega) (by rw [Nat.pow_succ] at h2; omega)]
      rw [Nat.log2_def x, if_pos (by omega)]
      omega
theorem bitLen_log2 (x : Nat) (h1 : 0 < x) (h2 : x < 2 ^ 64) : Lib.bitLen x = Nat.log2 x + 1 := bitLenAux_log2 64 x h1 h2

theorem ret_bool {a b : Bool} (h : a = b) : Ending.returned (.bool a) = .returned (.bool b) := by rw [h]

/-- A slice that reads as a list of strings. -/
structure SL (w : World) (sv : Value) (l : List ByteArray) : Prop where
  form : ∃ a cap, sv = .slice a l.length cap ∧ l.length ≤ cap ∧ (0 < l.length → ∃ b off, a = some ⟨b, off, none⟩ ∧ b < w.heap.size ∧ ∀ j x, l[j]? = some x → w.cell? ⟨b, off + j, none⟩ = some (.string x))
theorem SL.below {w w' : World} {sv : Value} {l : List ByteArray} (h : SL w sv l) (hb : Below w.heap.size w w') : SL w' sv l := by
  obtain ⟨a, cap, e, h1, h2⟩ := h.form
  refine ⟨a, cap, e, h1, fun h0 => ?_⟩
  obtain ⟨b, off, ea, hlt, hc⟩ := h2 h0
  exact ⟨b, off, ea, Nat.lt_of_lt_of_le hlt hb.size, fun j x hj => (hb.cell (p := ⟨b, off + j, none⟩) hlt).trans (hc j x hj)⟩
theorem SL.nil (w : World) : SL w (.slice none 0 0) [] := ⟨none, 0, rfl, Nat.le_refl _, fun h => absurd h (by simp)⟩

end Go.Proofs.YthlmgookaljgnaaGreatDoor
namespace Go.Proofs.YthlmgookaljgnaaGreatDoor
open Go.RowKit
set_option linter.unusedVariables false

/-- the number that slices.IndexFunc answers -/
def idxS (p : ByteArray → Bool) (l : List ByteArray) : Int := match l.findIdx? p with | some i => (i : Int) | none => -1
theorem idxS_any (p : ByteArray → Bool) (l : List ByteArray) : decide (0 ≤ idxS p l) = l.any p := by
  unfold idxS
  cases h : l.findIdx? p with
  | none =>
    rw [List.findIdx?_eq_none_iff] at h
    have : l.any p = false := List.any_eq_false.2 fun x hx => by simp [h x hx]
    rw [this]; rfl
  | some i =>
    obtain ⟨h1, h2, _⟩ := List.findIdx?_eq_some_iff_getElem.1 h
    have : l.any p = true := List.any_eq_true.2 ⟨l[i], List.getElem_mem h1, h2⟩
    rw [this]; simp

set_option maxHeartbeats 1000000 in
theorem IndexS_any (w : World) (sv : Value) (l : List ByteArray) (hsl : SL w sv l) (hlen : l.length ≤ 1000000000) (fn : Nat) (caps : Array Value) (hcap : caps.size ≤ 3) (p : ByteArray → Bool)
    (ha : ∀ s, s ∈ l → Calls Tryz.prog fn (#[.string s] ++ caps) w fun e w' => e = .returned (.bool (p s)) ∧ w = w') (hen : ∀ args w, (callFunc fn args).run Tryz.prog w = .ok (.enter fn args) w) :
    Calls Tryz.prog 52 #[sv, .func (.func fn) #[] caps] w fun e w' => e = .returned (.int .i64 (idxS p l)) ∧ w = w' := by
  obtain ⟨a, cap, rfl, hcp, hne⟩ := hsl.form
  obtain ⟨n, hn⟩ : ∃ n, l.length = n := ⟨_, rfl⟩
  have HA := Lib.hid ha
  have HN := Lib.hid hn
  rw [hn] at hlen ⊢
  have HNE := Lib.hid hne
  clear ha hn hne hsl
  go_enter Tryz.func52, Tryz.ntmps52
  go_wp2
  go_loop [8] (fun i => ∃ k : Nat, k ≤ n ∧ i = .int .i64 k ∧ Hid (∀ j, (h : j < l.length) → j < k → p l[j] = false)) (fun i => n - (intOf i).toNat)
  case atStart => exact ⟨0, Nat.zero_le _, rfl, fun j _ h => by omega⟩
  case round =>
    obtain ⟨k, hk, rfl, hb⟩ := hrel
    by_cases hlt : k < n
    · have hk' : k < l.length := by rw [HN.out]; exact hlt
      obtain ⟨b, off, rfl, hbl, hcs⟩ := HNE.out (by omega)
      have c : w.cell? ⟨b, off + k, none⟩ = some (.string l[k]) := hcs k _ (List.getElem?_eq_getElem hk')
      have HM : Hid (l[k] ∈ l) := Lib.hid (List.getElem_mem hk')
      clear hcs
      obtain ⟨z, hz⟩ : ∃ z, l[k] = z := ⟨_, rfl⟩
      rw [hz] at c HM
      have HZ := Lib.hid hz
      clear hz
      cases hp : p z with
      | true =>
        have hfin : idxS p l = k := by
          unfold idxS
          rw [show l.findIdx? p = some k from List.findIdx?_eq_some_iff_getElem.2 ⟨hk', by rw [HZ.out]; exact hp, fun j hj => by simp [hb.out j (by omega) hj]⟩]
        have HF := Lib.hid hfin
        have HP := Lib.hid hp
        clear hp hfin
        go_wp2_with fail
        refine (HA.out z HM.out).mono ?_
        rintro e w' ⟨rfl, rfl⟩
        rw [HP.out]
        go_wp2_with fail
        go_ret
        rw [HF.out]
        exact ⟨rfl, rfl⟩
      | false =>
        have HP := Lib.hid hp
        clear hp
        go_wp2_with fail
        refine (HA.out z HM.out).mono ?_
        rintro e w' ⟨rfl, rfl⟩
        rw [HP.out]
        go_wp2_with fail
        go_round
        case rel =>
          refine ⟨k + 1, by omega, by go_num, fun j h hj => ?_⟩
          by_cases e : j = k
          · subst e; rw [HZ.out]; exact HP.out
          · exact hb.out j h (by omega)
        case measure => simp [intOf]; omega
    · obtain rfl : k = n := by omega
      have hfin : idxS p l = -1 := by
        unfold idxS
        rw [show l.findIdx? p = none from List.findIdx?_eq_none_iff.2 fun x hx => by
          obtain ⟨j, hj, rfl⟩ := List.getElem_of_mem hx
          exact hb.out j hj (by rw [← HN.out]; exact hj)]
      have HF := Lib.hid hfin
      clear hfin
      go_wp2
      go_ret
      rw [HF.out]
      exact ⟨rfl, rfl⟩

set_option maxHeartbeats 1000000 in
theorem ContainsS_any (w : World) (sv : Value) (l : List ByteArray) (hsl : SL w sv l) (hlen : l.length ≤ 1000000000) (fn : Nat) (caps : Array Value) (hcap : caps.size ≤ 3) (p : ByteArray → Bool)
    (ha : ∀ s, s ∈ l → Calls Tryz.prog fn (#[.string s] ++ caps) w fun e w' => e = .returned (.bool (p s)) ∧ w = w') (hen : ∀ args w, (callFunc fn args).run Tryz.prog w = .ok (.enter fn args) w) :
    Calls Tryz.prog 27 #[sv, .func (.func fn) #[] caps] w fun e w' => e = .returned (.bool (l.any p)) ∧ w = w' := by
  have IX := Lib.hid (IndexS_any w sv l hsl hlen fn caps hcap p ha hen)
  have HX := Lib.hid (idxS_any p l)
  generalize idxS p l = z at *
  clear hsl ha
  go_enter Tryz.func27, Tryz.ntmps27
  go_wp2_with fail
  refine IX.out.mono ?_
  rintro e w' ⟨rfl, rfl⟩
  go_wp2
  go_ret
  exact ⟨ret_bool HX.out, rfl⟩

/-- are all strings digests? -/
def allD (l : List ByteArray) : Bool := !(l.any fun s => !(s.size == 32))
theorem allD_iff (l : List ByteArray) : allD l = true ↔ ∀ s ∈ l, s.size = 32 := by simp [allD]

end Go.Proofs.YthlmgookaljgnaaGreatDoor
namespace Go.Proofs.YthlmgookaljgnaaGreatDoor
open Go.RowKit Go.Shelf
set_option linter.unusedVariables false

attribute [local go_sem] Oper.semAt_some

theorem finRev_take (n j : Nat) (h0 : 0 < j) (h : j ≤ n) : (List.finRange n).reverse.take (n - (j - 1)) = (List.finRange n).reverse.take (n - j) ++ [⟨j - 1, by omega⟩] := by
  rw [show n - (j - 1) = (n - j) + 1 by omega, List.take_succ_eq_append_getElem (by simp; omega)]
  congr 2
  rw [List.getElem_reverse]
  simp
  omega

end Go.Proofs.YthlmgookaljgnaaGreatDoor
namespace Go.Proofs.YthlmgookaljgnaaGreatDoor
open Go.RowKit Go.Shelf
set_option linter.unusedVariables false

attribute [local go_sem] Oper.semAt_some

/-- a side of a way in memory -/
def sideV (s : ByteArray × Bool) : List Value := [.string s.1, .bool s.2]
def sidesV (l : List (ByteArray × Bool)) : List Value := l.flatMap sideV
def sideA (s : ByteArray × Bool) : Value := .agg #[.string s.1, .bool s.2]
theorem sidesV_length (l : List (ByteArray × Bool)) : (sidesV l).length = l.length * 2 := by
  induction l with
  | nil => rfl
  | cons x l ih => simp only [sidesV, List.flatMap_cons, List.length_append, sideV, List.length_cons, List.length_nil] at *; omega
theorem sidesV_get : ∀ (l : List (ByteArray × Bool)) (j : Nat) (h : j < l.length), (sidesV l)[2 * j]? = some (.string l[j].1) ∧ (sidesV l)[2 * j + 1]? = some (.bool l[j].2)
  | x :: l, 0, _ => by simp [sidesV, sideV]
  | x :: l, j + 1, h => by
    have := sidesV_get l j (by simpa using h)
    have e : sidesV (x :: l) = .string x.1 :: .bool x.2 :: sidesV l := rfl
    rw [e, show 2 * (j + 1) = 2 * j + 1 + 1 by omega, List.getElem?_cons_succ, List.getElem?_cons_succ, List.getElem?_cons_succ, List.getElem?_cons_succ]
    simpa using this

/-- The law for a loop whose variable is boxed: the box's object is given. -/
theorem rangeH {F : Fence} {n : Nat} {P : Program} {α : Type} {g : Operand} {ps : Array Tmp} {assign body : Code} {Q : Exit → Act → World → Prop} {tm : Array Value} {w : World}
    (hro : F.round = none) (h1 : 1 ≤ n) {gf : Nat} {lb : Array Value} (hg : Act.eval { tmps := tm, defers := [] } g = .func (.func gf) #[] lb) (hFg : F.fn gf) (eg : ∀ args w, (callFunc gf args).run P w = .ok (.enter gf args) w)
    {encs : α → Array Value} {Kp : World → World → Prop} {S Sp : List α → Prop} {N : Nat} {w0 : World} (hseq : SeqStopsK F (n - 1) P gf lb encs Kp S Sp N w0)
    (hKt : ∀ {A B C : World}, Kp A B → Kp B C → Kp A C) (hKb : ∀ (W : World) (l : Nat) (o o' : Obj), w.heap.size ≤ l → W.heap[l]? = some o → o.isCells = false → o.isWalk = false → Kp W (W.putObj l o')) (hb0 : Below w0.heap.size w0 w) (hps : ∀ x, (encs x).size = ps.size)
    (I : List α → World → Prop) (Ix : Code → List α → World → Prop) (hI : OwnFrom w.heap.size I) (hIx : ∀ c, OwnFrom w.heap.size (Ix c)) (h0 : I [] w) (ob : α → Obj) (hob : ∀ x, (ob x).isCells = true) (f : α → Nat → Array Value → Array Value)
    (hassign : ∀ (l : Nat) (pre : List α) (x : α) (W : World) (K : Act → World → Prop), w.heap.size ≤ W.heap.size → I pre W → (∀ (Bx : Nat) W', w.heap.size ≤ Bx → KeepsFrom w.heap.size W W' → Kp W W' → I pre W' → W'.heap[Bx]? = some (ob x) → K { tmps := f x Bx tm, defers := [] } W') →
      assign.wpIn (F.inRound l) (n - 1 - 1) P (Exit.then K (fun _ _ _ => False)) { tmps := (ps.zip (encs x)).foldl (fun t (p, v) => t.setIfInBounds p v) tm, defers := [] } W)
    (hIs : ∀ pre W, I pre W → w.heap.size ≤ W.heap.size)
    (hbody : ∀ (l : Nat) (pre : List α) (x : α) (Bx : Nat) (W : World), w.heap.size ≤ Bx → W.heap[Bx]? = some (ob x) → I pre W → pre.length < N → body.wpIn (F.inRound l) (n - 1 - 1) P (ownPostG w.heap.size Kp I Ix (pre ++ [x]) W) { tmps := f x Bx tm, defers := [] } W)
    (hdone : ∀ (D : Nat) (xs : List α) (W : World), w.heap.size ≤ D → S xs → I xs W → W.heap[D]? = some (.deferred (some [])) → Q .normal { tmps := tm, defers := { target := .collected D, args := #[] } :: [] } W)
    (hstop : ∀ (D : Nat) (c : Code) (pre : List α) (W : World), w.heap.size ≤ D → Sp pre → Ix c pre W → W.heap[D]? = some (.deferred (some [])) → c.wpIn F n P Q { tmps := tm, defers := { target := .collected D, args := #[] } :: [] } W) :
    (Code.rangeFunc g ps assign body).wpIn F n P Q { tmps := tm, defers := [] } w :=
  wpIn_rangeFunc_ownH hro h1 hg hFg eg hseq hKt hKb hb0 hps I Ix hI hIx h0 (fun x a' W => ∃ Bx, w.heap.size ≤ Bx ∧ W.heap[Bx]? = some (ob x) ∧ a' = { tmps := f x Bx tm, defers := [] })
    (fun x a' _ W W' row ⟨Bx, h1, h2, h3⟩ hg hr => ⟨Bx, h1, by
      rw [hg.block Bx (ltOf h2) (fun e => by
        obtain ⟨_, o, ho, hc⟩ := hr Bx e.symm
        rw [h2] at ho; injection ho with ho; subst ho; rw [hob x] at hc; cases hc)]; exact h2, h3⟩)
    (fun l pre x W K hi hK => hassign l pre x W K (hIs pre W hi) hi (fun Bx W' h1 h2 h3 h4 h5 => hK _ W' h2 h3 h4 ⟨Bx, h1, h5, rfl⟩))
    (fun l pre x a' W _ _ hi ⟨Bx, h1, h2, h3⟩ hlt => by subst h3; exact hbody l pre x Bx W h1 h2 hi hlt) hdone hstop

end Go.Proofs.YthlmgookaljgnaaGreatDoor
namespace Go.Proofs.YthlmgookaljgnaaGreatDoor
open Go.RowKit Go.Shelf
set_option linter.unusedVariables false
attribute [local go_sem] Oper.semAt_some

def empB : ByteArray := sumB ⟨#[]⟩
def rootB (l : List ByteArray) : ByteArray := Dig.root leafB nodeB empB l
def stkB (l : List ByteArray) : List (ByteArray × Nat) := Dig.stk leafB nodeB empB l

theorem Tryz.infoStr : (Tryz.prog.info? 9).map (fun i => (i.zero, i.size, i.bytes)) = some (some (.string ByteArray.empty), 1, 16) := by kernel_rfl
theorem Tryz.infoInt : (Tryz.prog.info? 3).map (fun i => (i.zero, i.size, i.bytes)) = some (some (.int .i64 0), 1, 8) := by kernel_rfl

def strV (l : List ByteArray) : List Value := l.map Value.string
def natV (l : List Nat) : List Value := l.map fun (n : Nat) => Value.int .i64 (n : Int)

/-- The stack as two rows of the call's own. -/
structure RootS (w : World) (st : List (ByteArray × Nat)) (v1 v2 : Value) (wr : World) : Prop where
  r1 : wr.ownsRow w.heap.size 9 1 v1 st.length (strV (st.map (·.1)))
  r2 : wr.ownsRow w.heap.size 3 1 v2 st.length (natV (st.map (·.2)))
  below : Below w.heap.size w wr
  dig : ∀ x ∈ st, x.1.size = 32
  le : ∀ x ∈ st, x.2 ≤ 1000000
theorem own_ne {w : World} {b1 b2 s1 s2 n1 n2 : Nat} {e1 e2 : TypeId} {v1 v2 : Value} {x1 x2 : List Value} (h1 : w.ownsRow b1 e1 s1 v1 n1 x1) (h2 : w.ownsRow b2 e2 s2 v2 n2 x2) (he : e1 ≠ e2) : v1.ownBlock = none ∨ v1.ownBlock ≠ v2.ownBlock := by
  rcases h1.2 with ⟨rfl, _⟩ | ⟨g1, c1, cur1, rfl, _, hg1, _⟩
  · exact .inl rfl
  · rcases h2.2 with ⟨rfl, _⟩ | ⟨g2, c2, cur2, rfl, _, hg2, _⟩
    · exact .inr (by simp [Value.ownBlock])
    · refine .inr fun e => ?_
      have e' : g1 = g2 := by simpa [Value.ownBlock] using e
      subst e'
      exact ty_ne hg1 hg2 he rfl
theorem own_take {w : World} {base n k : Nat} {e : TypeId} {g cap : Nat} {xs : List Value} (h : w.ownsRow base e 1 (.slice (some ⟨g, 0, none⟩) n cap) n xs) (hk : k ≤ n) : w.ownsRow base e 1 (.slice (some ⟨g, 0, none⟩) k cap) k (xs.take k) := by
  have hl := h.1
  rw [Nat.mul_one] at hl
  refine ⟨by rw [List.length_take]; omega, .inr ?_⟩
  rcases h.2 with ⟨e0, _⟩ | ⟨g', c', cur, e1, hb, hg, hn, hc, hs, ht⟩
  · cases e0
  · injection e1 with e1 e2 e3
    injection e1 with e1
    injection e1 with e1
    subst e1 e3
    rw [Nat.mul_one] at ht
    exact ⟨g, cap, cur, rfl, hb, hg, by omega, hc, hs, by rw [← ht, List.take_take, Nat.mul_one, Nat.min_eq_left hk]⟩
theorem own_upd {S : Nat → Prop} {w w' : World} {base n s : Nat} {e : TypeId} {v : Value} {xs : List Value} (h : w.ownsRow base e s v n xs) (hu : Upd S w w') (hS : ∀ g, v.ownBlock = some g → ¬ S g) : w'.ownsRow base e s v n xs := by
  refine ⟨h.1, h.2.imp id ?_⟩
  rintro ⟨g, c, cur, rfl, hb, hg, r⟩
  exact ⟨g, c, cur, rfl, hb, hu.at hg (hS g rfl), r⟩
theorem own_below {w w' : World} {base n s : Nat} {e : TypeId} {v : Value} {xs : List Value} (h : w.ownsRow base e s v n xs) (hu : Below w.heap.size w w') : w'.ownsRow base e s v n xs :=
  own_upd (S := fun _ => False) h (Upd.of_below hu) (fun _ _ h => h)
theorem own_form {w : World} {base n s : Nat} {e : TypeId} {v : Value} {xs : List Value} (h : w.ownsRow base e s v n xs) (hn : 0 < n) : ∃ g cap, v = .slice (some ⟨g, 0, none⟩) n cap ∧ base ≤ g ∧ g < w.heap.size ∧ n ≤ cap ∧ cap ≤ maxLen ∧ ∀ j u, xs[j]? = some u → w.cell? ⟨g, j, none⟩ = some u := by
  rcases h.2 with ⟨rfl, _⟩ | ⟨g, c, cur, rfl, hb, hg, h1, h2, _⟩
  · omega
  · refine ⟨g, c, rfl, hb, ltOf hg, h1, h2, fun j u hj => ?_⟩
    have := h.cells (g := g) rfl j u hj
    have ha : (⟨g, 0, none⟩ : Addr).add j = ⟨g, j, none⟩ := by unfold Addr.add; split <;> simp_all
    rwa [ha] at this

theorem own2 {w W1 W2 : World} {o o' : Obj} {n : Nat} {v1 v2 : Value} {x1 x2 : List Value} (R1 : W1.ownsRow w.heap.size 9 1 v1 n x1) (R2 : W1.ownsRow w.heap.size 3 1 v2 n x2) (hg : (W1.alloc o).grownBy W2 v1.ownBlock) :
    (W2.alloc o').ownsRow w.heap.size 3 1 v2 n x2 :=
  (((R2.alloc o).kept hg (own_ne R2 R1 (by decide)))).alloc o'

theorem RootS.drewN {w wr : World} {st : List (ByteArray × Nat)} {v1 v2 : Value} (h : RootS w st v1 v2 wr) (n : Nat) : RootS w st v1 v2 (wr.drewN n) :=
  ⟨h.r1, h.r2, ⟨h.below.os, h.below.tape, h.below.output, h.below.size, h.below.block⟩, h.dig, h.le⟩
theorem RootS.merged {w Wa W6 W7 : World} {cur p : List (ByteArray × Nat)} {u1 u2 : Value} {x y : ByteArray} {m q g3 cap3 g2 cap2 g5 cap5 : Nat} {o : Obj} (h : RootS w cur u1 u2 Wa) (hc : cur = p ++ [(x, m), (y, m)]) (hq : p.length = q)
    (R1 : W6.ownsRow w.heap.size 9 1 (.slice (some ⟨g3, 0, none⟩) (q + 1) cap3) (q + 1) (strV (p.map (·.1)) ++ [.string (nodeB x y)])) (B : Below w.heap.size w W6)
    (R2 : W7.ownsRow w.heap.size 3 1 (.slice (some ⟨g5, 0, none⟩) (q + 1) cap5) (q + 1) (natV (p.map (·.2)) ++ [.int .i64 (2 * (m : Int))]))
    (R3 : W6.ownsRow w.heap.size 3 1 (.slice (some ⟨g2, 0, none⟩) q cap2) q (natV (p.map (·.2)))) (hg : (W6.alloc o).drew.grownBy W7 (Value.slice (some ⟨g2, 0, none⟩) q cap2).ownBlock) (hm : 2 * m ≤ 1000000) :
    RootS w (p ++ [(nodeB x y, 2 * m)]) (.slice (some ⟨g3, 0, none⟩) (q + 1) cap3) (.slice (some ⟨g5, 0, none⟩) (q + 1) cap5) W7 := by
  subst hc hq
  have R1' := ((R1.alloc o).drew).kept hg (own_ne R1 R3 (by decide))
  refine ⟨by simpa [strV] using R1', by simpa [natV] using R2, ?_, ?_, ?_⟩
  · exact ((B.alloc B.size o).drew).grown hg (by have := B.size; simp; omega) (fun k e => (R3.lt k e).1)
  · intro z hz
    rcases List.mem_append.1 hz with hz | hz
    · exact h.dig z (by simp [hz])
    · obtain rfl := List.mem_singleton.1 hz; exact sumB_size _
  · intro z hz
    rcases List.mem_append.1 hz with hz | hz
    · exact h.le z (by simp [hz])
    · obtain rfl := List.mem_singleton.1 hz; exact hm
theorem RootS.pushed {w wr W1 W2 W3 : World} {st : List (ByteArray × Nat)} {u3 u4 v3 v4 : Value} {x : ByteArray} {o o' : Obj} (h : RootS w st u3 u4 wr) (R1 : W1.ownsRow w.heap.size 9 1 u3 st.length (strV (st.map (·.1)))) (R2 : W1.ownsRow w.heap.size 3 1 u4 st.length (natV (st.map (·.2))))
    (B1 : Below w.heap.size w W1) (O1 : W2.ownsRow w.heap.size 9 1 v3 (st.length + 1) (strV (st.map (·.1)) ++ [.string (leafB x)])) (G1 : (W1.alloc o).grownBy W2 u3.ownBlock)
    (O2 : W3.ownsRow w.heap.size 3 1 v4 (st.length + 1) (natV (st.map (·.2)) ++ [.int .i64 1])) (G2 : (W2.alloc o').grownBy W3 u4.ownBlock) : RootS w (st ++ [(leafB x, 1)]) v3 v4 W3 := by
  have O1' := (O1.alloc o').kept G2 (own_ne (O1.alloc o') (own2 R1 R2 G1) (by decide))
  have hb2 : Below w.heap.size w W2 := (B1.alloc B1.size o).grown G1 (by have := B1.size; simp; omega) (fun k e => (R1.lt k e).1)
  refine ⟨by simpa [strV] using O1', by simpa [natV] using O2, (hb2.alloc hb2.size o').grown G2 (by have := hb2.size; simp; omega) (fun k e => (R2.lt k e).1), ?_, ?_⟩
  · intro y hy
    rcases List.mem_append.1 hy with hy | hy
    · exact h.dig y hy
    · obtain rfl := List.mem_singleton.1 hy; exact sumB_size _
  · intro y hy
    rcases List.mem_append.1 hy with hy | hy
    · exact h.le y hy
    · obtain rfl := List.mem_singleton.1 hy; simp

theorem merges_inv {s s' : List (ByteArray × Nat)} (h : Dig.Merges nodeB s s') : (s = s' ∧ ∀ p a b m, s ≠ p ++ [(a, m), (b, m)]) ∨ ∃ p a b m, s = p ++ [(a, m), (b, m)] ∧ Dig.Merges nodeB (p ++ [(nodeB a b, 2 * m)]) s' := by
  cases h with
  | stop h => exact .inl ⟨rfl, h⟩
  | @step p a b m _ h => exact .inr ⟨p, a, b, m, rfl, h⟩
theorem snoc_cases {α : Type} (l : List α) : l = [] ∨ ∃ p x, l = p ++ [x] := by
  rcases List.eq_nil_or_concat l with h | ⟨p, x, h⟩
  · exact .inl h
  · exact .inr ⟨p, x, by rw [h]; simp⟩
theorem foldR_snoc (sL : List (ByteArray × Nat)) (r : ByteArray × Nat) : Dig.foldR nodeB empB (sL ++ [r]) = (sL.map (·.1)).foldr nodeB r.1 := by
  induction sL with
  | nil => rfl
  | cons x sL ih =>
    cases sL with
    | nil => rfl
    | cons y sL => rw [List.cons_append, List.cons_append, Dig.foldR, ← List.cons_append, ih]; rfl
/-- the nodes from the end of a list on -/
def backF (L : List ByteArray) (pre : List (Fin L.length)) (r : ByteArray) : ByteArray := pre.foldl (fun o x => nodeB L[x] o) r
theorem backF_snoc (L : List ByteArray) (pre : List (Fin L.length)) (x : Fin L.length) (r : ByteArray) : backF L (pre ++ [x]) r = nodeB L[x] (backF L pre r) := by simp [backF]
theorem backF_size (L : List ByteArray) (_ : ∀ x : Fin L.length, L[x].size = 32) (pre : List (Fin L.length)) (r : ByteArray) (hr : r.size = 32) : (backF L pre r).size = 32 := by
  rcases snoc_cases pre with rfl | ⟨p, x, rfl⟩
  · exact hr
  · rw [backF_snoc]; exact sumB_size _
theorem map_finRange (L : List ByteArray) : (List.finRange L.length).map (fun x => L[x]) = L := by
  apply List.ext_getElem
  · simp
  · intro i h1 h2; simp
theorem backF_all (L : List ByteArray) (r : ByteArray) : backF L (List.finRange L.length).reverse r = L.foldr nodeB r := by
  unfold backF
  rw [List.foldl_reverse]
  have := List.foldr_map (f := fun x : Fin L.length => L[x]) (g := nodeB) (l := List.finRange L.length) (init := r)
  rw [map_finRange] at this
  exact this.symm
theorem two_last {α : Type} (l : List α) : l.length ≤ 1 ∨ ∃ p x y, l = p ++ [x, y] := by
  by_cases h : l.length ≤ 1
  · exact .inl h
  · refine .inr ⟨l.take (l.length - 2), l[l.length - 2]'(by omega), l[l.length - 1]'(by omega), ?_⟩
    apply List.ext_getElem
    · simp; omega
    · intro i h1 h2
      rw [List.getElem_append]
      simp only [List.length_take, List.getElem_take]
      split
      · rfl
      · have : i = l.length - 2 ∨ i = l.length - 1 := by omega
        rcases this with rfl | rfl
        · simp [show min (l.length - 2) l.length = l.length - 2 by omega]
        · simp [show min (l.length - 2) l.length = l.length - 2 by omega, show l.length - 1 - (l.length - 2) = 1 by omega]

end Go.Proofs.YthlmgookaljgnaaGreatDoor
namespace Dig
section
variable {α D : Type} (leaf : α → D) (node : D → D → D) (emp : D)

/-- the proof of an entry, the root's sibling first -/
def prfF : Nat → List α → Nat → List D
  | 0, _, _ => []
  | f + 1, l, i => if l.length ≤ 1 then [] else
    if i < lft l.length then root leaf node emp (l.drop (lft l.length)) :: prfF f (l.take (lft l.length)) i
    else root leaf node emp (l.take (lft l.length)) :: prfF f (l.drop (lft l.length)) (i - lft l.length)
def prf (l : List α) (i : Nat) : List D := prfF leaf node emp l.length l i

theorem prfF_fuel : ∀ (f g : Nat) (l : List α) (i : Nat), l.length ≤ f → l.length ≤ g → prfF leaf node emp f l i = prfF leaf node emp g l i := by
  intro f
  induction f with
  | zero =>
    intro g l i h1 h2
    cases g with
    | zero => rfl
    | succ g => rw [prfF, prfF, if_pos (by omega)]
  | succ f ih =>
    intro g l i h1 h2
    cases g with
    | zero => rw [prfF, prfF, if_pos (by omega)]
    | succ g =>
      rw [prfF, prfF]
      by_cases h : l.length ≤ 1
      · rw [if_pos h, if_pos h]
      · rw [if_neg h, if_neg h]
        have h3 := lft_lt (n := l.length) (by omega)
        have h4 := lft_pos l.length
        rw [ih g _ _ (by rw [List.length_take]; omega) (by rw [List.length_take]; omega), ih g _ _ (by rw [List.length_drop]; omega) (by rw [List.length_drop]; omega)]
theorem prf_one (l : List α) (i : Nat) (h : l.length ≤ 1) : prf leaf node emp l i = [] := by
  unfold prf
  cases hl : l.length with
  | zero => rfl
  | succ n => rw [prfF, if_pos h]
theorem prf_two (l : List α) (i : Nat) (h : 2 ≤ l.length) : prf leaf node emp l i =
    if i < lft l.length then root leaf node emp (l.drop (lft l.length)) :: prf leaf node emp (l.take (lft l.length)) i
    else root leaf node emp (l.take (lft l.length)) :: prf leaf node emp (l.drop (lft l.length)) (i - lft l.length) := by
  obtain ⟨n, hn⟩ : ∃ n, l.length = n + 1 := ⟨l.length - 1, by omega⟩
  have h3 := lft_lt (n := l.length) h
  have h4 := lft_pos l.length
  conv => lhs; unfold prf
  rw [hn, prfF, if_neg (by omega)]
  unfold prf
  rw [← hn]
  rw [prfF_fuel leaf node emp n (l.take (lft l.length)).length _ _ (by rw [List.length_take]; omega) (Nat.le_refl _), prfF_fuel leaf node emp n (l.drop (lft l.length)).length _ _ (by rw [List.length_drop]; omega) (Nat.le_refl _)]

/-- the way from the root to an entry: the sides, and what is left of the proof -/
def wayF : Nat → Nat → Nat → List D → Option (List (D × Bool) × List D)
  | 0, _, _, t => some ([], t)
  | f + 1, n, i, t => if n ≤ 1 then some ([], t) else
    match t with
    | [] => none
    | x :: t => if i < lft n then (wayF f (lft n) i t).map fun r => ((x, false) :: r.1, r.2)
      else (wayF f (n - lft n) (i - lft n) t).map fun r => ((x, true) :: r.1, r.2)
theorem wayF_zero (n i : Nat) (t : List D) : wayF 0 n i t = some ([], t) := rfl
theorem wayF_succ (f n i : Nat) (t : List D) : wayF (f + 1) n i t = if n ≤ 1 then some ([], t) else
    match t with
    | [] => none
    | x :: t => if i < lft n then (wayF f (lft n) i t).map fun r => ((x, false) :: r.1, r.2)
      else (wayF f (n - lft n) (i - lft n) t).map fun r => ((x, true) :: r.1, r.2) := by cases t <;> rfl
def way (n i : Nat) (t : List D) : Option (List (D × Bool) × List D) := wayF n n i t
theorem wayF_fuel : ∀ (f g n i : Nat) (t : List D), n ≤ f → n ≤ g → wayF f n i t = wayF g n i t := by
  intro f
  induction f with
  | zero =>
    intro g n i t h1 h2
    cases g with
    | zero => rfl
    | succ g => rw [wayF_zero, wayF_succ, if_pos (by omega)]
  | succ f ih =>
    intro g n i t h1 h2
    cases g with
    | zero => rw [wayF_succ, wayF_zero, if_pos (by omega)]
    | succ g =>
      rw [wayF_succ, wayF_succ]
      by_cases h : n ≤ 1
      · rw [if_pos h, if_pos h]
      · rw [if_neg h, if_neg h]
        have h3 := lft_lt (n := n) (by omega)
        have h4 := lft_pos n
        cases t with
        | nil => rfl
        | cons x t => simp only; rw [ih g _ _ _ (by omega) (by omega), ih g _ _ _ (by omega) (by omega)]
theorem way_one (n i : Nat) (t : List D) (h : n ≤ 1) : way n i t = some ([], t) := by
  unfold way
  cases n with
  | zero => rfl
  | succ n => rw [wayF_succ, if_pos h]
theorem way_nil (n i : Nat) (h : 2 ≤ n) : way (D := D) n i [] = none := by
  unfold way
  cases n with
  | zero => omega
  | succ n => rw [wayF_succ, if_neg (by omega)]
theorem way_cons (n i : Nat) (x : D) (t : List D) (h : 2 ≤ n) : way n i (x :: t) =
    if i < lft n then (way (lft n) i t).map fun r => ((x, false) :: r.1, r.2) else (way (n - lft n) (i - lft n) t).map fun r => ((x, true) :: r.1, r.2) := by
  have h3 := lft_lt (n := n) h
  have h4 := lft_pos n
  obtain ⟨m, rfl⟩ : ∃ m, n = m + 1 := ⟨n - 1, by omega⟩
  conv => lhs; unfold way
  rw [wayF_succ, if_neg (by omega)]
  simp only
  unfold way
  rw [wayF_fuel m (lft (m + 1)) _ _ _ (by omega) (Nat.le_refl _), wayF_fuel m (m + 1 - lft (m + 1)) _ _ _ (by omega) (Nat.le_refl _)]

/-- the value of a way -/
def join (s : D × Bool) (out : D) : D := if s.2 then node s.1 out else node out s.1
def value (v : D) (ws : List (D × Bool)) : D := ws.foldr (join node) v
theorem value_cons (v : D) (s : D × Bool) (ws : List (D × Bool)) : value node v (s :: ws) = join node s (value node v ws) := rfl

theorem way_prf : ∀ (n : Nat) (l : List α) (i : Nat) (h : i < l.length), l.length = n → ∃ ws, way n i (prf leaf node emp l i) = some (ws, []) ∧ value node (leaf l[i]) ws = root leaf node emp l := by
  intro n
  induction n using Nat.strongRecOn with
  | ind n ih =>
    intro l i hi hn
    by_cases h1 : l.length ≤ 1
    · rw [prf_one leaf node emp l i h1, way_one n i _ (by omega)]
      refine ⟨[], rfl, ?_⟩
      match l, h1, hi with
      | [x], _, hi =>
        obtain rfl : i = 0 := by simpa using hi
        rfl
    · have h3 := lft_lt (n := l.length) (by omega)
      have h4 := lft_pos l.length
      rw [prf_two leaf node emp l i (by omega), root_two leaf node emp l (by omega)]
      subst hn
      by_cases hlt : i < lft l.length
      · rw [if_pos hlt, way_cons _ _ _ _ (by omega), if_pos hlt]
        have hl : (l.take (lft l.length)).length = lft l.length := by rw [List.length_take]; omega
        obtain ⟨ws, h5, h6⟩ := ih (lft l.length) h3 (l.take (lft l.length)) i (by omega) hl
        rw [h5]
        refine ⟨_, rfl, ?_⟩
        rw [value_cons]
        have e : (l.take (lft l.length))[i]'(by omega) = l[i] := List.getElem_take
        rw [e] at h6
        simp only [h6]; rfl
      · rw [if_neg hlt, way_cons _ _ _ _ (by omega), if_neg hlt]
        have hl : (l.drop (lft l.length)).length = l.length - lft l.length := by rw [List.length_drop]
        obtain ⟨ws, h5, h6⟩ := ih (l.length - lft l.length) (by omega) (l.drop (lft l.length)) (i - lft l.length) (by omega) hl
        rw [h5]
        refine ⟨_, rfl, ?_⟩
        rw [value_cons]
        have e : (l.drop (lft l.length))[i - lft l.length]'(by omega) = l[i] := by
          rw [List.getElem_drop]; congr 1; omega
        rw [e] at h6
        simp only [h6]; rfl

/-- how long a way is -/
def depF : Nat → Nat → Nat → Nat
  | 0, _, _ => 0
  | f + 1, n, i => if n ≤ 1 then 0 else 1 + if i < lft n then depF f (lft n) i else depF f (n - lft n) (i - lft n)
theorem way_length : ∀ (f n i : Nat) (t : List D), (wayF f n i t).map (fun r => r.1.length + r.2.length) = if depF f n i ≤ t.length then some t.length else none := by
  intro f
  induction f with
  | zero => intro n i t; simp [wayF, depF]
  | succ f ih =>
    intro n i t
    rw [wayF_succ, depF]
    by_cases h : n ≤ 1
    · rw [if_pos h, if_pos h]; simp
    · rw [if_neg h, if_neg h]
      cases t with
      | nil => rw [if_neg (by simp)]; rfl
      | cons x t =>
        simp only
        by_cases hi : i < lft n
        · rw [if_pos hi, if_pos hi, Option.map_map]
          have := ih (lft n) i t
          cases hw : wayF f (lft n) i t with
          | none => rw [hw] at this; simp only [Option.map_none] at this ⊢
                    split at this
                    · cases this
                    · rw [if_neg (by simp; omega)]
          | some r => rw [hw] at this; simp only [Option.map_some] at this ⊢
                      split at this
                      · rename_i hd
                        injection this with this
                        rw [if_pos (by simp; omega)]
                        simp; omega
                      · cases this
        · rw [if_neg hi, if_neg hi, Option.map_map]
          have := ih (n - lft n) (i - lft n) t
          cases hw : wayF f (n - lft n) (i - lft n) t with
          | none => rw [hw] at this; simp only [Option.map_none] at this ⊢
                    split at this
                    · cases this
                    · rw [if_neg (by simp; omega)]
          | some r => rw [hw] at this; simp only [Option.map_some] at this ⊢
                      split at this
                      · rename_i hd
                        injection this with this
                        rw [if_pos (by simp; omega)]
                        simp; omega
                      · cases this
theorem way_sides : ∀ (f n i : Nat) (t : List D) (ws : List (D × Bool)) (r : List D), wayF f n i t = some (ws, r) → ws.length = depF f n i := by
  intro f
  induction f with
  | zero => intro n i t ws r h; simp only [wayF, Option.some.injEq, Prod.mk.injEq] at h; rw [← h.1]; rfl
  | succ f ih =>
    intro n i t ws r h
    rw [wayF_succ] at h
    rw [depF]
    by_cases h1 : n ≤ 1
    · rw [if_pos h1] at h ⊢
      simp only [Option.some.injEq, Prod.mk.injEq] at h; rw [← h.1]; rfl
    · rw [if_neg h1] at h ⊢
      cases t with
      | nil => cases h
      | cons x t =>
        simp only at h
        by_cases hi : i < lft n
        · rw [if_pos hi] at h ⊢
          obtain ⟨⟨ws', r'⟩, h2, h3⟩ := Option.map_eq_some_iff.1 h
          simp only [Prod.mk.injEq] at h3
          rw [← h3.1, List.length_cons, ih _ _ _ _ _ h2]; omega
        · rw [if_neg hi] at h ⊢
          obtain ⟨⟨ws', r'⟩, h2, h3⟩ := Option.map_eq_some_iff.1 h
          simp only [Prod.mk.injEq] at h3
          rw [← h3.1, List.length_cons, ih _ _ _ _ _ h2]; omega

/-! ### Extensions -/
/-- the proof that a list begins with m entries, the root's sibling first -/
def extF : Nat → List α → Nat → Bool → List D
  | 0, _, _, _ => []
  | f + 1, l, m, w => if m < l.length then
      if m ≤ lft l.length then root leaf node emp (l.drop (lft l.length)) :: extF f (l.take (lft l.length)) m w
      else root leaf node emp (l.take (lft l.length)) :: extF f (l.drop (lft l.length)) (m - lft l.length) false
    else if w then [] else [root leaf node emp l]
def ext (l : List α) (m : Nat) (w : Bool) : List D := extF leaf node emp (l.length + 1) l m w
theorem extF_fuel : ∀ (f g : Nat) (l : List α) (m : Nat) (w : Bool), 1 ≤ m → l.length < f → l.length < g → extF leaf node emp f l m w = extF leaf node emp g l m w := by
  intro f
  induction f with
  | zero => intro g l m w _ h1 h2; omega
  | succ f ih =>
    intro g l m w hm h1 h2
    cases g with
    | zero => omega
    | succ g =>
      rw [extF, extF]
      by_cases h : m < l.length
      · rw [if_pos h, if_pos h]
        have h3 := lft_lt (n := l.length) (by omega)
        have h4 := lft_pos l.length
        by_cases hk : m ≤ lft l.length
        · rw [if_pos hk, if_pos hk, ih g _ _ _ hm (by rw [List.length_take]; omega) (by rw [List.length_take]; omega)]
        · rw [if_neg hk, if_neg hk, ih g _ _ _ (by omega) (by rw [List.length_drop]; omega) (by rw [List.length_drop]; omega)]
      · rw [if_neg h, if_neg h]
theorem ext_end (l : List α) (m : Nat) (w : Bool) (h : l.length ≤ m) : ext leaf node emp l m w = if w then [] else [root leaf node emp l] := by
  unfold ext; rw [extF, if_neg (by omega)]
theorem ext_step (l : List α) (m : Nat) (w : Bool) (h1 : 1 ≤ m) (h : m < l.length) : ext leaf node emp l m w =
    if m ≤ lft l.length then root leaf node emp (l.drop (lft l.length)) :: ext leaf node emp (l.take (lft l.length)) m w
    else root leaf node emp (l.take (lft l.length)) :: ext leaf node emp (l.drop (lft l.length)) (m - lft l.length) false := by
  have h3 := lft_lt (n := l.length) (by omega)
  have h4 := lft_pos l.length
  conv => lhs; unfold ext
  rw [extF, if_pos h]
  unfold ext
  by_cases hk : m ≤ lft l.length
  · rw [if_pos hk, if_pos hk, extF_fuel leaf node emp l.length ((l.take (lft l.length)).length + 1) _ _ _ h1 (by rw [List.length_take]; omega) (by omega)]
  · rw [if_neg hk, if_neg hk, extF_fuel leaf node emp l.length ((l.drop (lft l.length)).length + 1) _ _ _ (by omega) (by rw [List.length_drop]; omega) (by omega)]

/-- the way from the root down to the end of m entries: the sides, what is left of the proof, and whether the part is whole -/
def wayEF : Nat → Nat → Nat → List D → Bool → Option (List (D × Bool) × List D × Bool)
  | 0, _, _, t, w => some ([], t, w)
  | f + 1, n, m, t, w => if m < n then
    match t with
    | [] => none
    | x :: t => if m ≤ lft n then (wayEF f (lft n) m t w).map fun r => ((x, false) :: r.1, r.2)
      else (wayEF f (n - lft n) (m - lft n) t false).map fun r => ((x, true) :: r.1, r.2)
    else some ([], t, w)
theorem wayEF_zero (n m : Nat) (t : List D) (w : Bool) : wayEF 0 n m t w = some ([], t, w) := rfl
theorem wayEF_succ (f n m : Nat) (t : List D) (w : Bool) : wayEF (f + 1) n m t w = if m < n then
    match t with
    | [] => none
    | x :: t => if m ≤ lft n then (wayEF f (lft n) m t w).map fun r => ((x, false) :: r.1, r.2)
      else (wayEF f (n - lft n) (m - lft n) t false).map fun r => ((x, true) :: r.1, r.2)
    else some ([], t, w) := by cases t <;> rfl
def wayE (n m : Nat) (t : List D) (w : Bool) : Option (List (D × Bool) × List D × Bool) := wayEF n n m t w
theorem wayEF_fuel : ∀ (f g n m : Nat) (t : List D) (w : Bool), 1 ≤ m → n ≤ f → n ≤ g → wayEF f n m t w = wayEF g n m t w := by
  intro f
  induction f with
  | zero =>
    intro g n m t w hm h1 h2
    cases g with
    | zero => rfl
    | succ g => rw [wayEF_zero, wayEF_succ, if_neg (by omega)]
  | succ f ih =>
    intro g n m t w hm h1 h2
    cases g with
    | zero => rw [wayEF_succ, wayEF_zero, if_neg (by omega)]
    | succ g =>
      rw [wayEF_succ, wayEF_succ]
      by_cases h : m < n
      · rw [if_pos h, if_pos h]
        have h3 := lft_lt (n := n) (by omega)
        have h4 := lft_pos n
        cases t with
        | nil => rfl
        | cons x t =>
          simp only
          by_cases hk : m ≤ lft n
          · rw [if_pos hk, if_pos hk, ih g _ _ _ _ hm (by omega) (by omega)]
          · rw [if_neg hk, if_neg hk, ih g _ _ _ _ (by omega) (by omega) (by omega)]
      · rw [if_neg h, if_neg h]
theorem wayE_end (n m : Nat) (t : List D) (w : Bool) (h : n ≤ m) : wayE n m t w = some ([], t, w) := by
  unfold wayE
  cases n with
  | zero => rfl
  | succ n => rw [wayEF_succ, if_neg (by omega)]
theorem wayE_nil (n m : Nat) (w : Bool) (h : m < n) : wayE (D := D) n m [] w = none := by
  unfold wayE
  cases n with
  | zero => omega
  | succ n => rw [wayEF_succ, if_pos (by omega)]
theorem wayE_cons (n m : Nat) (x : D) (t : List D) (w : Bool) (h1 : 1 ≤ m) (h : m < n) : wayE n m (x :: t) w =
    if m ≤ lft n then (wayE (lft n) m t w).map fun r => ((x, false) :: r.1, r.2) else (wayE (n - lft n) (m - lft n) t false).map fun r => ((x, true) :: r.1, r.2) := by
  have h3 := lft_lt (n := n) (by omega)
  have h4 := lft_pos n
  obtain ⟨k, rfl⟩ : ∃ k, n = k + 1 := ⟨n - 1, by omega⟩
  conv => lhs; unfold wayE
  rw [wayEF_succ, if_pos h]
  simp only
  unfold wayE
  by_cases hk : m ≤ lft (k + 1)
  · rw [if_pos hk, if_pos hk, wayEF_fuel k (lft (k + 1)) _ _ _ _ h1 (by omega) (Nat.le_refl _)]
  · rw [if_neg hk, if_neg hk, wayEF_fuel k (k + 1 - lft (k + 1)) _ _ _ _ (by omega) (by omega) (Nat.le_refl _)]

/-- the two values of a way -/
def first (v : D) (ws : List (D × Bool)) : D := ws.foldr (fun s o => if s.2 then join node s o else o) v
theorem first_cons (v : D) (s : D × Bool) (ws : List (D × Bool)) : first node v (s :: ws) = if s.2 then join node s (first node v ws) else first node v ws := rfl

end
end Dig
