/- The reference's SHA-256: a block.
  Plain facts on trees of digests: the root of a list by a stack of complete parts, proofs and extensions. No program in sight.
  Digests of marked strings; the small functions of trees.
  The small functions of trees.
  slices.IndexFunc, ContainsFunc at strings.
  slices.Backward over strings.
  slices.Backward over sides.
-/
import Derived.Test.YtljgphmdiflphaaDoorMb
import Derived.Test.YtljgphmdiflphaaDoorShelf
import Derived.Deep.RegionWith
import Derived.RangeFuncNested
import Derived.RangeFuncCalls
namespace Go.Proofs.YtljgphmdiflphaaDoor
open Go.RowKit
set_option linter.unusedVariables false

theorem t_int2 (e f g h k x : Nat) (le : e < 4294967296) (lf : f < 4294967296) (lg : g < 4294967296) (lh : h < 4294967296) :
    (((h : Int) + ((Sha.mix e [6, 11, 25] : Nat) : Int) + bits BinOp.xor IntKind.u32 (bits BinOp.and IntKind.u32 (e : Int) (f : Int)) (bits BinOp.and IntKind.u32 (bits BinOp.xor IntKind.u32 (if IntKind.u32.signed = true then -1 else IntKind.u32.max) (e : Int)) (g : Int)) + (k : Int)) % 4294967296 + (x : Int)) % 4294967296 =
      ((Sha.tval e f g h k x : Nat) : Int) := by
  rw [← t_int e f g h k x le lf lg lh]
  rw [show (if IntKind.u32.signed = true then (-1 : Int) else IntKind.u32.max) = IntKind.u32.max from rfl]
  simp only [IntKind.wrap_u32']
  omega
theorem u_int2 (a b c : Nat) (la : a < 4294967296) (lb : b < 4294967296) (lc : c < 4294967296) :
    (((Sha.mix a [2, 13, 22] : Nat) : Int) + bits BinOp.xor IntKind.u32 (bits BinOp.xor IntKind.u32 (bits BinOp.and IntKind.u32 (a : Int) (b : Int)) (bits BinOp.and IntKind.u32 (a : Int) (c : Int))) (bits BinOp.and IntKind.u32 (b : Int) (c : Int))) % 4294967296 =
      ((Sha.uval a b c : Nat) : Int) := by
  rw [← u_int a b c la lb lc, IntKind.wrap_u32']
theorem addV_take (H V : List Nat) (h1 : H.length = 8) (h2 : V.length = 8) (k : Nat) (hk : k < 8) : (Sha.addV H V).take (k + 1) = (Sha.addV H V).take k ++ [(H.getD k 0 + V.getD k 0) % 4294967296] := by
  have hA : (Sha.addV H V).length = 8 := by simp [Sha.addV, h1, h2]
  rw [List.take_succ_eq_append_getElem (by omega)]
  congr 2
  simp only [Sha.addV, List.getElem_zipWith, List.getD_eq_getElem?_getD]
  rw [List.getElem?_eq_getElem (by omega), List.getElem?_eq_getElem (by omega)]; rfl
theorem wrap_add (x y : Nat) : IntKind.u32.wrap ((x : Int) + (y : Int)) = (((x + y) % 4294967296 : Nat) : Int) := by
  rw [IntKind.wrap_u32']; omega
/-- Eight words, in a world that has kept what was there. -/
def V8 (w0 : World) (l : List Nat) (v : Value) (wr : World) : Prop :=
  (∃ b cap, v = .slice (some ⟨b, 0, none⟩) 8 cap ∧ 8 ≤ cap ∧ b < wr.heap.size ∧ ∀ (j : Nat) (x : Nat), l[j]? = some x → wr.cell? ⟨b, j, none⟩ = some (.int .u32 (x : Int))) ∧ Below w0.heap.size w0 wr
theorem below_drewN' {b : Nat} {w w' : World} (h : Below b w w') (n : Nat) : Below b w (w'.drewN n) := ⟨h.os, h.tape, h.output, h.size, h.block⟩
set_option maxRecDepth 100000 in
set_option maxHeartbeats 8000000 in
theorem block_any (H bs : List Nat) (hH : H.length = 8) (hHs : Sha.small H) (hb : Sha.bytes bs) (hl : bs.length = 64) (hv : Value) (w : World) (hHv : NL w hv H) (g off c : Nat) (hg : g < w.heap.size) (hc : BytesAt w g off bs) :
    Calls Tryd.prog 68 #[hv, .slice (some ⟨g, off, none⟩) 64 c] w fun e w' => ∃ v, e = .returned v ∧ OWd w (Sha.blk H bs) 8 v w' := by
  obtain ⟨i0, hi, hz0, hz1, hz2⟩ := info_parts Tryd.infoW
  obtain ⟨gh, oh, ch, rfl, hch, hgh, hcH⟩ := hHv.form
  have HCH := Lib.hid hcH
  have HLEN := Lib.hid hH
  have HC : Hid (∀ (wr : World), Below w.heap.size w wr → ∀ i, i < 64 → wr.cell? ⟨g, off + i, none⟩ = some (.int .u8 (bs.getD i 0 : Nat))) :=
    Lib.hid fun wr hB i hi => (hB.cell (p := ⟨g, off + i, none⟩) hg).trans (hc i (by omega))
  rw [hH] at hch ⊢
  clear hl hc hHv hcH hH
  go_enter Tryd.func68, Tryd.ntmps68
  go_wp2
  go_loopw [5, 6] (fun v i wr => ∃ k : Nat, k ≤ 16 ∧ i = .int .i64 k ∧ OWd w (Sha.schedN bs k) k v wr) (fun _ i _ => 16 - (intOf i).toNat)
  case atStart => exact ⟨0, by omega, rfl, World.ownsRow_nil _ _ _ _, Below.refl _ _⟩
  case round =>
    obtain ⟨k, hk, rfl, hS⟩ := hrel
    have HS := Lib.hid hS
    clear hS
    by_cases hlt : k < 16
    · have hd := (Sha.getD_byte hb)
      have c0 := HC.out wr HS.out.below (4 * k) (by omega)
      have c1 := HC.out wr HS.out.below (4 * k + 1) (by omega)
      have c2 := HC.out wr HS.out.below (4 * k + 2) (by omega)
      have c3 := HC.out wr HS.out.below (4 * k + 3) (by omega)
      have l0 := hd (4 * k)
      have l1 := hd (4 * k + 1)
      have l2 := hd (4 * k + 2)
      have l3 := hd (4 * k + 3)
      have N := Lib.hid (Sha.schedN_lo bs k hlt)
      unfold Sha.word at N
      generalize bs.getD (4 * k) 0 = x0 at *
      generalize bs.getD (4 * k + 1) 0 = x1 at *
      generalize bs.getD (4 * k + 2) 0 = x2 at *
      generalize bs.getD (4 * k + 3) 0 = x3 at *
      clear hd
      have hne5 : ∀ j, u5.ownBlock = some j → j ≠ g := fun j e => by have := (HS.out.row.lt j e).1; omega
      have m0 : IntKind.i64.wrap (4 * (k : Int)) = 4 * (k : Int) := IntWalk.i64_in _ (by omega)
      have m1 : IntKind.i64.wrap (4 * (k : Int) + 1) = 4 * (k : Int) + 1 := IntWalk.i64_in _ (by omega)
      have m2 : IntKind.i64.wrap (4 * (k : Int) + 2) = 4 * (k : Int) + 2 := IntWalk.i64_in _ (by omega)
      have m3 : IntKind.i64.wrap (4 * (k : Int) + 3) = 4 * (k : Int) + 3 := IntWalk.i64_in _ (by omega)
      have t0 : (4 * (k : Int)).toNat = 4 * k := by omega
      have t1 : (4 * (k : Int) + 1).toNat = 4 * k + 1 := by omega
      have t2 : (4 * (k : Int) + 2).toNat = 4 * k + 2 := by omega
      have t3 : (4 * (k : Int) + 3).toNat = 4 * k + 3 := by omega
      have p0 : 0 ≤ 4 * (k : Int) := by omega
      have p1 : 0 ≤ 4 * (k : Int) + 1 := by omega
      have p2 : 0 ≤ 4 * (k : Int) + 2 := by omega
      have p3 : 0 ≤ 4 * (k : Int) + 3 := by omega
      have q0 : 4 * (k : Int) < 64 := by omega
      have q1 : 4 * (k : Int) + 1 < 64 := by omega
      have q2 : 4 * (k : Int) + 2 < 64 := by omega
      have q3 : 4 * (k : Int) + 3 < 64 := by omega
      go_wp2
      go_region_held3 (fun w' => w'.cell? ⟨g, off + 4 * k, none⟩ = some (.int .u8 (x0 : Nat)) ∧ w'.cell? ⟨g, off + (4 * k + 1), none⟩ = some (.int .u8 (x1 : Nat)) ∧ w'.cell? ⟨g, off + (4 * k + 2), none⟩ = some (.int .u8 (x2 : Nat)) ∧ w'.cell? ⟨g, off + (4 * k + 3), none⟩ = some (.int .u8 (x3 : Nat)))
        ((first | (with_reducible exact ⟨c0, c1, c2, c3⟩) | (with_reducible exact ⟨keepA c0, keepA c1, keepA c2, keepA c3⟩) | (with_reducible exact ⟨keepA0 c0, keepA0 c1, keepA0 c2, keepA0 c3⟩) | (with_reducible exact ⟨d0, d1, d2, d3⟩) | go_keep))
        ((refine step_append_lies _ (by rfl) _ _ _ (by rfl) w.heap.size 82 i0 _ 1 4 Tryd.underlying90 hi hz0 hz1 hz2 rfl (by omega) u5 k _ (by rfl) (by first | exact (HS.out.row.alloc _).drew | exact HS.out.row.drew.alloc _ | exact HS.out.row.alloc _) ⟨wr.heap.size, 0, none⟩ 1 1 [.int .u32 ((Sha.wordv x0 x1 x2 x3 : Nat) : Int)] (by rfl) (by rfl) (news_one' (congrArg (Value.int .u32) (word_int x0 x1 x2 x3 l0 l1 l2 l3)) (by first | exact heap_alloc_new _ _ | (rw [drewHeap]; exact heap_alloc_new _ _))) (by simp [Value.oneCell']) (by omega) (by simp only [maxLen]; omega) (by omega) (by have := HS.out.below.size; simp; omega) (wr.heap.size + 1) (by simp) ?_
          intro gg cc W2 hown hgr hat hlt6
          have d0 := keepG hgr (by first | exact keepA c0 | exact keepA0 c0) hne5
          have d1 := keepG hgr (by first | exact keepA c1 | exact keepA0 c1) hne5
          have d2 := keepG hgr (by first | exact keepA c2 | exact keepA0 c2) hne5
          have d3 := keepG hgr (by first | exact keepA c3 | exact keepA0 c3) hne5))
      have O2 := Lib.hid hown
      have G2 : Hid ((wr.alloc _).grownBy W2 u5.ownBlock) := Lib.hid (by first | exact hgr | exact grown_of_drew hgr)
      clear hown hgr hat hlt6 d0 d1 d2 d3 c0 c1 c2 c3 m0 m1 m2 m3 t0 t1 t2 t3 hne5
      go_wp2
      go_roundw
      case rel => exact ⟨k + 1, by omega, by go_num, HS.out.push _ [Sha.wordv x0 x1 x2 x3] O2.out N.out G2.out⟩
      case measure => simp [intOf]; omega
    · obtain rfl : k = 16 := by omega
      rw [show ((16 : Nat) : Int) = 16 from rfl]
      clear HC
      go_wp2
      obtain ⟨wo, rfl⟩ : ∃ wo : World, wo = wr := ⟨_, rfl⟩
      go_loopw [5, 7, 8, 9] (fun v i _ _ wr => ∃ k : Nat, 16 ≤ k ∧ k ≤ 64 ∧ i = .int .i64 k ∧ OWd w (Sha.schedN bs k) k v wr) (fun _ i _ _ _ => 64 - (intOf i).toNat)
      case atStart => exact ⟨16, by omega, by omega, rfl, HS.out⟩
      case round =>
        clear HS
        obtain ⟨k, hk0, hk, rfl, hS⟩ := hrel
        obtain ⟨g5, c5, rfl, hc5, hg5, hcs⟩ := hS.form (by omega)
        have HS := Lib.hid hS
        have CS := Lib.hid hcs
        clear hS hcs
        by_cases hlt2 : k < 64
        · have hln := Sha.schedN_length bs k
          have c2 := CS.out (k - 2) ((Sha.schedN bs k).getD (k - 2) 0) (by rw [List.getD_eq_getElem?_getD, List.getElem?_eq_getElem (by omega)]; rfl)
          have c7 := CS.out (k - 7) ((Sha.schedN bs k).getD (k - 7) 0) (by rw [List.getD_eq_getElem?_getD, List.getElem?_eq_getElem (by omega)]; rfl)
          have c15 := CS.out (k - 15) ((Sha.schedN bs k).getD (k - 15) 0) (by rw [List.getD_eq_getElem?_getD, List.getElem?_eq_getElem (by omega)]; rfl)
          have c16 := CS.out (k - 16) ((Sha.schedN bs k).getD (k - 16) 0) (by rw [List.getD_eq_getElem?_getD, List.getElem?_eq_getElem (by omega)]; rfl)
          have hsm := Sha.getD_lt (Sha.sched_small hb k)
          have l2 := hsm (k - 2)
          have l15 := hsm (k - 15)
          have N := Lib.hid (Sha.schedN_hi bs k hk0)
          unfold Sha.next at N
          generalize (Sha.schedN bs k).getD (k - 2) 0 = x2 at *
          generalize (Sha.schedN bs k).getD (k - 7) 0 = x7 at *
          generalize (Sha.schedN bs k).getD (k - 15) 0 = x15 at *
          generalize (Sha.schedN bs k).getD (k - 16) 0 = x16 at *
          clear hsm hln
          have m2 : IntKind.i64.wrap ((k : Int) - 2) = (k : Int) - 2 := IntWalk.i64_in _ (by omega)
          have m7 : IntKind.i64.wrap ((k : Int) - 7) = (k : Int) - 7 := IntWalk.i64_in _ (by omega)
          have m15 : IntKind.i64.wrap ((k : Int) - 15) = (k : Int) - 15 := IntWalk.i64_in _ (by omega)
          have m16 : IntKind.i64.wrap ((k : Int) - 16) = (k : Int) - 16 := IntWalk.i64_in _ (by omega)
          have t2 : ((k : Int) - 2).toNat = k - 2 := by omega
          have t7 : ((k : Int) - 7).toNat = k - 7 := by omega
          have t15 : ((k : Int) - 15).toNat = k - 15 := by omega
          have t16 : ((k : Int) - 16).toNat = k - 16 := by omega
          have p2 : 0 ≤ (k : Int) - 2 := by omega
          have p7 : 0 ≤ (k : Int) - 7 := by omega
          have p15 : 0 ≤ (k : Int) - 15 := by omega
          have p16 : 0 ≤ (k : Int) - 16 := by omega
          have q2 : (k : Int) - 2 < (k : Int) := by omega
          have q7 : (k : Int) - 7 < (k : Int) := by omega
          have q15 : (k : Int) - 15 < (k : Int) := by omega
          have q16 : (k : Int) - 16 < (k : Int) := by omega
          have r2 : 2 ≤ (k : Int) := by omega
          have r7 : 7 ≤ (k : Int) := by omega
          have r15 : 15 ≤ (k : Int) := by omega
          have r16 : 16 ≤ (k : Int) := by omega
          go_wp2
          go_quiet ((go_at_call 94; first | (with_reducible exact Calls.quiet_of (rotated_any x15 7 7 rfl _ l15 (by decide) (by decide))) | (with_reducible exact Calls.quiet_of (rotated_any x15 18 18 rfl _ l15 (by decide) (by decide)))))
          rw [sig8 x15 l15 7 18]
          have HS1 : Hid (OWd w (Sha.schedN bs k) k (.slice (some ⟨g5, 0, none⟩) k c5) (wr.drewN nq)) := Lib.hid ⟨HS.out.row, below_drewN' HS.out.below nq⟩
          have hs15 : Sha.mix x15 [7, 18] ^^^ x15 / 8 < 4294967296 := Nat.xor_lt_two_pow (n := 32) (Sha.mix_lt _ l15 _) (by omega)
          replace c2 : (wr.drewN nq).cell? ⟨g5, k - 2, none⟩ = some (.int .u32 (x2 : Nat)) := c2
          replace c7 : (wr.drewN nq).cell? ⟨g5, k - 7, none⟩ = some (.int .u32 (x7 : Nat)) := c7
          replace c16 : (wr.drewN nq).cell? ⟨g5, k - 16, none⟩ = some (.int .u32 (x16 : Nat)) := c16
          have NV := Lib.hid (nextv_int x16 x15 x7 x2)
          clear c15 HS CS
          generalize wr.drewN nq = W at *
          generalize Sha.mix x15 [7, 18] ^^^ x15 / 8 = s15 at *
          go_wp2
          go_quiet ((go_at_call 94; first | (with_reducible exact Calls.quiet_of (rotated_any x2 17 17 rfl _ l2 (by decide) (by decide))) | (with_reducible exact Calls.quiet_of (rotated_any x2 19 19 rfl _ l2 (by decide) (by decide)))))
          rw [sig1024 x2 l2 17 19]
          have HS2 : Hid (OWd w (Sha.schedN bs k) k (.slice (some ⟨g5, 0, none⟩) k c5) (W.drewN nq)) := Lib.hid ⟨HS1.out.row, below_drewN' HS1.out.below nq⟩
          replace c7 : (W.drewN nq).cell? ⟨g5, k - 7, none⟩ = some (.int .u32 (x7 : Nat)) := c7
          replace c16 : (W.drewN nq).cell? ⟨g5, k - 16, none⟩ = some (.int .u32 (x16 : Nat)) := c16
          clear c2 HS1
          generalize W.drewN nq = W1 at *
          generalize Sha.mix x2 [17, 19] ^^^ x2 / 1024 = s2 at *
          go_wp2
          go_region_held3 (fun w' => w'.cell? ⟨g5, k - 16, none⟩ = some (.int .u32 (x16 : Nat)) ∧ w'.cell? ⟨g5, k - 7, none⟩ = some (.int .u32 (x7 : Nat)))
            ((first | (with_reducible exact ⟨c16, c7⟩) | (with_reducible exact ⟨keepA c16, keepA c7⟩) | (with_reducible exact ⟨keepA0 c16, keepA0 c7⟩) | (with_reducible exact ⟨d16, d7⟩) | go_keep))
            ((refine step_append_keep (by rfl) _ _ _ (by rfl) w.heap.size 82 i0 _ 4 Tryd.underlying90 hi hz0 hz1 hz2 rfl g5 k c5 _ (by rfl) (by first | exact (HS2.out.row.alloc _).drew | exact HS2.out.row.drew.alloc _ | exact HS2.out.row.alloc _) ⟨W1.heap.size, 0, none⟩ 1 1 [.int .u32 ((Sha.nextv x16 x15 x7 x2 : Nat) : Int)] (by rfl) (by rfl) (news_one' (congrArg (Value.int .u32) NV.out) (by first | exact heap_alloc_new _ _ | (rw [drewHeap]; exact heap_alloc_new _ _))) (by simp [Value.oneCell']) (by simp only [maxLen]; omega) (by omega) (by have := HS2.out.below.size; simp; omega) ?_
              intro v5 W2 hown hgr hkp
              have d16 : W2.cell? ⟨g5, k - 16, none⟩ = some (.int .u32 (x16 : Nat)) := (hkp _ (by omega)).trans (by first | exact keepA c16 | exact keepA0 c16)
              have d7 : W2.cell? ⟨g5, k - 7, none⟩ = some (.int .u32 (x7 : Nat)) := (hkp _ (by omega)).trans (by first | exact keepA c7 | exact keepA0 c7)))
          have O2 := Lib.hid hown
          have G2 : Hid ((W1.alloc _).grownBy W2 (some g5)) := Lib.hid (by first | exact hgr | exact grown_of_drew hgr)
          clear hown hgr hkp d16 d7 c16 c7 m2 m7 m15 m16 t2 t7 t15 t16 NV
          go_wp2
          go_roundw
          case rel =>
            have R : OWd w (Sha.schedN bs (k + 1)) (k + 1) v5 W2 := HS2.out.push _ [Sha.nextv x16 x15 x7 x2] O2.out N.out G2.out
            first | exact ⟨k + 1, by omega, by omega, by go_num, R⟩ | ((repeat apply Exists.intro); exact ⟨⟨k + 1, by omega, by omega, by go_num, R⟩, rfl⟩)
          case measure => simp [intOf]; omega
        · obtain rfl : k = 64 := by omega
          rw [show ((64 : Nat) : Int) = 64 from rfl]
          have hHc : ∀ W, Below w.heap.size w W → ∀ j u, (wv H)[j]? = some u → W.cell? ((⟨gh, oh, none⟩ : Addr).add j) = some u := fun W hW j u hu => by
            have hadd : (⟨gh, oh, none⟩ : Addr).add j = ⟨gh, oh + j, none⟩ := by
              unfold Addr.add
              by_cases h : j = 0
              · subst h; simp
              · simp [h]
            rw [hadd, hW.cell (p := ⟨gh, oh + j, none⟩) hgh]
            simp only [wv, List.getElem?_map, Option.map_eq_some_iff] at hu
            obtain ⟨x, hx, rfl⟩ := hu
            exact HCH.out j x hx
          have HHc := Lib.hid hHc
          have HwH : Hid ((wv H).length = 8 * 1) := Lib.hid (by simp [wv, HLEN.out])
          have hone : ∀ u ∈ wv H, u.oneCell' = true := fun u hu => by
            simp only [wv, List.mem_map] at hu
            obtain ⟨y, _, rfl⟩ := hu
            rfl
          have HONE := Lib.hid hone
          clear hHc hone
          go_wp2_with (first
            | (go_at_call 95
               refine (constants_any _).mono ?_
               rintro e Wc ⟨rfl, hWc⟩
               have BWc := Lib.hid (show Below w.heap.size w Wc by rw [← hWc]; exact HS.out.below.alloc HS.out.below.size _)
               have KC : Hid (∀ (j : Nat) (x : Nat), Sha.K[j]? = some x → Wc.cell? ⟨wr.heap.size, j, none⟩ = some (.int .u32 (x : Int))) := Lib.hid (fun j x hj => by rw [← hWc, cellOf (allocAt _ rfl)]; simp [wv, hj])
               have SC : Hid (∀ (j : Nat) (x : Nat), (Sha.schedN bs 64)[j]? = some x → Wc.cell? ⟨g5, j, none⟩ = some (.int .u32 (x : Int))) := Lib.hid (fun j x hj => by rw [← hWc]; exact keepA0 (CS.out j x hj))
               have zc : wr.heap.size < Wc.heap.size := by rw [← hWc]; simp
               have zg : g5 < Wc.heap.size := by omega
               clear hWc)
            | (at_builtin; refine wpList_append_own _ rfl (.tmp 122) (.tmp 123) 90 rfl Wc.heap.size 82 i0 _ 1 4 Tryd.underlying90 hi hz0 hz1 hz2 rfl (by decide) (.slice none 0 0) 0 [] rfl (World.ownsRow_nil _ _ _ _) ⟨gh, oh, none⟩ 8 ch (wv H) rfl HwH.out (HHc.out Wc BWc.out) HONE.out (by simp only [maxLen]; omega) (by omega) (Nat.le_refl _) ?_
               intro v1 W2 hown hgr _
               have O1 : Hid (OWd Wc H 8 v1 W2) := Lib.hid ⟨by simpa using hown, (Below.refl Wc.heap.size Wc).grown hgr (Nat.le_refl _) (by simp [Value.ownBlock])⟩
               clear hown hgr))
          have V0 : Hid (V8 Wc (Sha.rounds (Sha.schedN bs 64) H 0) v1 W2) := Lib.hid (by
            obtain ⟨b, cp, e, h1, h2, h3⟩ := O1.out.form (by omega)
            exact ⟨⟨b, cp, e, h1, h2, h3⟩, O1.out.below⟩)
          obtain ⟨gk, hgk⟩ : ∃ gk, wr.heap.size = gk := ⟨_, rfl⟩
          rw [hgk] at KC zc ⊢
          have sml := Sha.sched_small hb 64
          have sln := Sha.schedN_length bs 64
          have HBLK : Hid (Sha.blk H bs = Sha.addV H (Sha.rounds (Sha.schedN bs 64) H 64)) := Lib.hid rfl
          have HSL := Lib.hid sln
          have HSM := Lib.hid sml
          generalize Sha.schedN bs 64 = S at *
          clear HS CS O1 HHc HwH HONE hgk sln sml hg5 hc5 hlt2 hk0 hk
          go_loopw [11, 12, 13, 14, 15, 16] (fun v i _ _ _ _ wr => ∃ k : Nat, k ≤ 64 ∧ i = .int .i64 k ∧ V8 Wc (Sha.rounds S H k) v wr) (fun _ i _ _ _ _ _ => 64 - (intOf i).toNat)
          case atStart => exact ⟨0, by omega, rfl, V0.out⟩
          case round =>
            clear V0
            obtain ⟨k, hk, rfl, hV⟩ := hrel
            obtain ⟨⟨gv, cv, rfl, hcv, hgv, hcs⟩, hbel⟩ := hV
            have HB := Lib.hid hbel
            have CS := Lib.hid hcs
            clear hbel hcs
            by_cases hlt : k < 64
            · have hrl := Sha.rounds_length S H HLEN.out k
              have hrs := Sha.rounds_small S H hHs k
              have N : Hid (Sha.rounds S H (k + 1) = Sha.rd (Sha.K.getD k 0) (S.getD k 0) (Sha.rounds S H k)) := Lib.hid rfl
              have lk : Sha.K.getD k 0 < 4294967296 := Sha.getD_lt Sha.K_lt k
              have lx : S.getD k 0 < 4294967296 := Sha.getD_lt HSM.out k
              have ck : wr.cell? ⟨gk, k, none⟩ = some (.int .u32 (Sha.K.getD k 0 : Nat)) := (HB.out.cell (p := ⟨gk, k, none⟩) zc).trans (KC.out k _ (by rw [List.getD_eq_getElem?_getD, List.getElem?_eq_getElem (show k < Sha.K.length from hlt)]; rfl))
              have cx : wr.cell? ⟨g5, k, none⟩ = some (.int .u32 (S.getD k 0 : Nat)) := (HB.out.cell (p := ⟨g5, k, none⟩) zg).trans (SC.out k _ (by rw [List.getD_eq_getElem?_getD, List.getElem?_eq_getElem (show k < S.length by rw [HSL.out]; exact hlt)]; rfl))
              obtain ⟨v0, v1, v2, v3, v4, v5, v6, v7, hV⟩ := len8 hrl
              rw [hV] at CS N hrs
              clear hV hrl
              have c0 : wr.cell? ⟨gv, 0, none⟩ = some (.int .u32 (v0 : Nat)) := CS.out 0 v0 rfl
              have c1 : wr.cell? ⟨gv, 1, none⟩ = some (.int .u32 (v1 : Nat)) := CS.out 1 v1 rfl
              have c2 : wr.cell? ⟨gv, 2, none⟩ = some (.int .u32 (v2 : Nat)) := CS.out 2 v2 rfl
              have c3 : wr.cell? ⟨gv, 3, none⟩ = some (.int .u32 (v3 : Nat)) := CS.out 3 v3 rfl
              have c4 : wr.cell? ⟨gv, 4, none⟩ = some (.int .u32 (v4 : Nat)) := CS.out 4 v4 rfl
              have c5 : wr.cell? ⟨gv, 5, none⟩ = some (.int .u32 (v5 : Nat)) := CS.out 5 v5 rfl
              have c6 : wr.cell? ⟨gv, 6, none⟩ = some (.int .u32 (v6 : Nat)) := CS.out 6 v6 rfl
              have c7 : wr.cell? ⟨gv, 7, none⟩ = some (.int .u32 (v7 : Nat)) := CS.out 7 v7 rfl
              have l0 := hrs v0 (by simp)
              have l1 := hrs v1 (by simp)
              have l2 := hrs v2 (by simp)
              have l4 := hrs v4 (by simp)
              have l5 := hrs v5 (by simp)
              have l6 := hrs v6 (by simp)
              have l7 := hrs v7 (by simp)
              have q0 : (k : Int) < 64 := by omega
              generalize S.getD k 0 = x at *
              generalize Sha.K.getD k 0 = kk at *
              clear hrs CS
              go_wp2
              go_quiet ((go_at_call 94; first | (with_reducible exact Calls.quiet_of (rotated_any v4 6 6 rfl _ l4 (by decide) (by decide))) | (with_reducible exact Calls.quiet_of (rotated_any v4 11 11 rfl _ l4 (by decide) (by decide))) | (with_reducible exact Calls.quiet_of (rotated_any v4 25 25 rfl _ l4 (by decide) (by decide)))))
              rw [mix3_int v4 l4 6 11 25, t_int2 v4 v5 v6 v7 kk x l4 l5 l6 l7]
              have HB1 := Lib.hid (below_drewN' HB.out nq)
              replace c1 : (wr.drewN nq).cell? ⟨gv, 1, none⟩ = some (.int .u32 (v1 : Nat)) := c1
              replace c2 : (wr.drewN nq).cell? ⟨gv, 2, none⟩ = some (.int .u32 (v2 : Nat)) := c2
              replace c3 : (wr.drewN nq).cell? ⟨gv, 3, none⟩ = some (.int .u32 (v3 : Nat)) := c3
              replace c5 : (wr.drewN nq).cell? ⟨gv, 5, none⟩ = some (.int .u32 (v5 : Nat)) := c5
              replace c6 : (wr.drewN nq).cell? ⟨gv, 6, none⟩ = some (.int .u32 (v6 : Nat)) := c6
              have lt : Sha.tval v4 v5 v6 v7 kk x < 4294967296 := Sha.tval_lt _ _ _ _ _ _
              rw [rd_eq] at N
              generalize Sha.tval v4 v5 v6 v7 kk x = t at *
              clear HB c0 c4 c7 ck cx
              generalize wr.drewN nq = W3 at *
              go_wp2
              go_quiet ((go_at_call 94; first | (with_reducible exact Calls.quiet_of (rotated_any v0 2 2 rfl _ l0 (by decide) (by decide))) | (with_reducible exact Calls.quiet_of (rotated_any v0 13 13 rfl _ l0 (by decide) (by decide))) | (with_reducible exact Calls.quiet_of (rotated_any v0 22 22 rfl _ l0 (by decide) (by decide)))))
              rw [mix3_int v0 l0 2 13 22]
              rw [u_int2 v0 v1 v2 l0 l1 l2]
              have HB2 := Lib.hid (below_drewN' HB1.out nq)
              replace c1 : (W3.drewN nq).cell? ⟨gv, 1, none⟩ = some (.int .u32 (v1 : Nat)) := c1
              replace c2 : (W3.drewN nq).cell? ⟨gv, 2, none⟩ = some (.int .u32 (v2 : Nat)) := c2
              replace c3 : (W3.drewN nq).cell? ⟨gv, 3, none⟩ = some (.int .u32 (v3 : Nat)) := c3
              replace c5 : (W3.drewN nq).cell? ⟨gv, 5, none⟩ = some (.int .u32 (v5 : Nat)) := c5
              replace c6 : (W3.drewN nq).cell? ⟨gv, 6, none⟩ = some (.int .u32 (v6 : Nat)) := c6
              have lu : Sha.uval v0 v1 v2 < 4294967296 := Sha.uval_lt _ _ _
              generalize Sha.uval v0 v1 v2 = u at *
              clear HB1
              generalize W3.drewN nq = W4 at *
              go_wp2
              go_still_tail 22, (by kernel_rfl)
              change wpList _ _ _ _ _ W4.drew
              have HB3 := Lib.hid (HB2.out.drew)
              clear HB2 c1 c2 c3 c5 c6
              generalize W4.drew = W5 at *
              go_wp2
              go_roundw
              case rel =>
                have R : V8 Wc (Sha.rounds S H (k + 1)) (.slice (some ⟨W5.heap.size, 0, none⟩) 8 8) (W5.alloc (.cells #[.int .u32 (((t : Int) + (u : Int)) % 4294967296), .int .u32 v0, .int .u32 v1, .int .u32 v2, .int .u32 (((v3 : Int) + (t : Int)) % 4294967296), .int .u32 v4, .int .u32 v5, .int .u32 v6] 82)) := ⟨⟨W5.heap.size, 8, rfl, Nat.le_refl _, by simp, fun j y hj => by
                  rw [N.out] at hj
                  rw [cellOf (allocAt _ rfl)]
                  match j, hj with
                  | 0, hj => injection hj with hj; subst hj; simp
                  | 1, hj => injection hj with hj; subst hj; rfl
                  | 2, hj => injection hj with hj; subst hj; rfl
                  | 3, hj => injection hj with hj; subst hj; rfl
                  | 4, hj => injection hj with hj; subst hj; simp
                  | 5, hj => injection hj with hj; subst hj; rfl
                  | 6, hj => injection hj with hj; subst hj; rfl
                  | 7, hj => injection hj with hj; subst hj; rfl
                  | j + 8, hj => simp at hj⟩, HB3.out.alloc HB3.out.size _⟩
                first | exact ⟨k + 1, by omega, by go_num, R⟩ | ((repeat apply Exists.intro); exact ⟨⟨k + 1, by omega, by go_num, R⟩, rfl⟩)
              case measure => simp [intOf]; omega
            · obtain rfl : k = 64 := by omega
              have hrl := Sha.rounds_length S H HLEN.out 64
              have hHc : ∀ (j : Nat) (x : Nat), H[j]? = some x → wr.cell? ⟨gh, oh + j, none⟩ = some (.int .u32 (x : Int)) := fun j x hj => by
                rw [HB.out.cell (p := ⟨gh, oh + j, none⟩) (Nat.lt_of_lt_of_le hgh BWc.out.size), BWc.out.cell (p := ⟨gh, oh + j, none⟩) hgh]
                exact HCH.out j x hj
              have hgw : gh < wr.heap.size := Nat.lt_of_lt_of_le hgh (Nat.le_trans BWc.out.size HB.out.size)
              have HHc := Lib.hid hHc
              have BW := Lib.hid (BWc.out.trans (HB.out.mono BWc.out.size))
              have HRL := Lib.hid hrl
              generalize Sha.rounds S H 64 = V at *
              clear hHc HB BWc KC SC HSL HSM hrl
              obtain ⟨wo, rfl⟩ : ∃ wo : World, wo = wr := ⟨_, rfl⟩
              go_wp2
              go_loopw [17, 18] (fun ov i wq => ∃ k : Nat, k ≤ 8 ∧ i = .int .i64 k ∧ OWd wo ((Sha.addV H V).take k) k ov wq) (fun _ i _ => 8 - (intOf i).toNat)
              case atStart => exact ⟨0, by omega, rfl, World.ownsRow_nil _ _ _ _, Below.refl _ _⟩
              case round =>
                obtain ⟨k, hk, rfl, hO⟩ := hrel
                have HO := Lib.hid hO
                clear hO
                by_cases hlt : k < 8
                · have c0 : wr.cell? ⟨gh, oh + k, none⟩ = some (.int .u32 (H.getD k 0 : Nat)) := (HO.out.below.cell (p := ⟨gh, oh + k, none⟩) hgw).trans (HHc.out k _ (by rw [List.getD_eq_getElem?_getD, List.getElem?_eq_getElem (show k < H.length by rw [HLEN.out]; exact hlt)]; rfl))
                  have c1 : wr.cell? ⟨gv, k, none⟩ = some (.int .u32 (V.getD k 0 : Nat)) := (HO.out.below.cell (p := ⟨gv, k, none⟩) hgv).trans (CS.out k _ (by rw [List.getD_eq_getElem?_getD, List.getElem?_eq_getElem (show k < V.length by rw [HRL.out]; exact hlt)]; rfl))
                  have N := Lib.hid (addV_take H V HLEN.out HRL.out k hlt)
                  have hne1 : ∀ j, u17.ownBlock = some j → j ≠ gh := fun j e => by have := (HO.out.row.lt j e).1; omega
                  have hne2 : ∀ j, u17.ownBlock = some j → j ≠ gv := fun j e => by have := (HO.out.row.lt j e).1; omega
                  have q0 : (k : Int) < 8 := by omega
                  generalize H.getD k 0 = x at *
                  generalize V.getD k 0 = y at *
                  go_wp2
                  go_region_held3 (fun w' => w'.cell? ⟨gh, oh + k, none⟩ = some (.int .u32 (x : Nat)) ∧ w'.cell? ⟨gv, k, none⟩ = some (.int .u32 (y : Nat)))
                    ((first | (with_reducible exact ⟨c0, c1⟩) | (with_reducible exact ⟨keepA c0, keepA c1⟩) | (with_reducible exact ⟨keepA0 c0, keepA0 c1⟩) | (with_reducible exact ⟨d0, d1⟩) | go_keep))
                    ((refine step_append_lies _ (by rfl) _ _ _ (by rfl) wo.heap.size 82 i0 _ 1 4 Tryd.underlying90 hi hz0 hz1 hz2 rfl (by omega) u17 k _ (by rfl) (by first | exact (HO.out.row.alloc _).drew | exact HO.out.row.drew.alloc _ | exact HO.out.row.alloc _) ⟨wr.heap.size, 0, none⟩ 1 1 [.int .u32 (((x + y) % 4294967296 : Nat) : Int)] (by rfl) (by rfl) (news_one' (congrArg (Value.int .u32) (wrap_add x y)) (by first | exact heap_alloc_new _ _ | (rw [drewHeap]; exact heap_alloc_new _ _))) (by simp [Value.oneCell']) (by omega) (by simp only [maxLen]; omega) (by omega) (by have := HO.out.below.size; simp; omega) (wr.heap.size + 1) (by simp) ?_
                      intro gg cc W2 hown hgr hat hlt6
                      have d0 := keepG hgr (by first | exact keepA c0 | exact keepA0 c0) hne1
                      have d1 := keepG hgr (by first | exact keepA c1 | exact keepA0 c1) hne2))
                  have O2 := Lib.hid hown
                  have G2 : Hid ((wr.alloc _).grownBy W2 u17.ownBlock) := Lib.hid (by first | exact hgr | exact grown_of_drew hgr)
                  clear hown hgr hat hlt6 d0 d1 c0 c1 hne1 hne2
                  go_wp2
                  go_roundw
                  case rel =>
                    have R : OWd wo ((Sha.addV H V).take (k + 1)) (k + 1) (.slice (some ⟨gg, 0, none⟩) (k + 1) cc) W2 := HO.out.push _ [(x + y) % 4294967296] O2.out N.out G2.out
                    first | exact ⟨k + 1, by omega, by go_num, R⟩ | ((repeat apply Exists.intro); exact ⟨⟨k + 1, by omega, by go_num, R⟩, rfl⟩)
                  case measure => simp [intOf]; omega
                · obtain rfl : k = 8 := by omega
                  go_wp2
                  go_ret
                  have h1 := HO.out
                  rw [List.take_of_length_le (by simp [Sha.addV, HLEN.out, HRL.out]), ← HBLK.out] at h1
                  exact ⟨_, rfl, own_base h1.row BW.out.size, BW.out.trans (h1.below.mono BW.out.size)⟩
end Go.Proofs.YtljgphmdiflphaaDoor
namespace Dig

/-- the greatest power of two that is less than n, for n at least 2 -/
def lft (n : Nat) : Nat := 2 ^ Nat.log2 (n - 1)

theorem lft_pos (n : Nat) : 0 < lft n := Nat.two_pow_pos _
theorem lft_lt {n : Nat} (h : 2 ≤ n) : lft n < n := by
  have := Nat.log2_self_le (n := n - 1) (by omega)
  unfold lft; omega
theorem lft_ge {n : Nat} (h : 2 ≤ n) : n ≤ 2 * lft n := by
  have := Nat.lt_log2_self (n := n - 1)
  unfold lft; rw [Nat.pow_succ] at this; omega
/-- what marks it out -/
theorem lft_unique {n j : Nat} (h1 : 2 ^ j < n) (h2 : n ≤ 2 * 2 ^ j) : lft n = 2 ^ j := by
  unfold lft
  congr 1
  apply (Nat.log2_eq_iff (by have := Nat.two_pow_pos j; omega)).2
  rw [Nat.pow_succ]
  omega

section
variable {α D : Type} (leaf : α → D) (node : D → D → D) (emp : D)

def rootF : Nat → List α → D
  | 0, _ => emp
  | _ + 1, [] => emp
  | _ + 1, [x] => leaf x
  | k + 1, x :: y :: l => node (rootF k ((x :: y :: l).take (lft (l.length + 2)))) (rootF k ((x :: y :: l).drop (lft (l.length + 2))))
def root (l : List α) : D := rootF leaf node emp l.length l

theorem rootF_fuel : ∀ (k : Nat) (l : List α), l.length ≤ k → rootF leaf node emp k l = root leaf node emp l := by
  intro k
  induction k using Nat.strongRecOn with
  | ind k ih =>
    intro l hl
    match k, l, hl with
    | 0, [], _ => rfl
    | k + 1, [], _ => rfl
    | k + 1, [x], _ => rfl
    | k + 1, x :: y :: l, hl =>
      have h1 := lft_lt (n := l.length + 2) (by omega)
      have h2 := lft_pos (l.length + 2)
      simp only [List.length_cons] at hl
      show node _ _ = node _ _
      have e1 : ∀ j, l.length + 1 ≤ j → j < k + 1 → rootF leaf node emp j ((x :: y :: l).take (lft (l.length + 2))) = root leaf node emp ((x :: y :: l).take (lft (l.length + 2))) := fun j h h' =>
        ih j h' _ (by simp only [List.length_take, List.length_cons]; omega)
      have e2 : ∀ j, l.length + 1 ≤ j → j < k + 1 → rootF leaf node emp j ((x :: y :: l).drop (lft (l.length + 2))) = root leaf node emp ((x :: y :: l).drop (lft (l.length + 2))) := fun j h h' =>
        ih j h' _ (by simp only [List.length_drop, List.length_cons]; omega)
      rw [e1 k (by omega) (by omega), e2 k (by omega) (by omega)]
      show _ = node (rootF leaf node emp (l.length + 1) _) (rootF leaf node emp (l.length + 1) _)
      rw [e1 (l.length + 1) (by omega) (by omega), e2 (l.length + 1) (by omega) (by omega)]

theorem root_nil : root leaf node emp [] = emp := rfl
theorem root_one (x : α) : root leaf node emp [x] = leaf x := rfl
theorem root_two (l : List α) (h : 2 ≤ l.length) :
    root leaf node emp l = node (root leaf node emp (l.take (lft l.length))) (root leaf node emp (l.drop (lft l.length))) := by
  match l, h with
  | x :: y :: l, _ =>
    have h1 := lft_lt (n := l.length + 2) (by omega)
    have h2 := lft_pos (l.length + 2)
    show node _ _ = node _ _
    rw [rootF_fuel, rootF_fuel]
    · rfl
    · simp only [List.length_drop, List.length_cons]; omega
    · simp only [List.length_take, List.length_cons]; omega

/-! ### The stack -/
/-- the complete parts of a list, the largest first, each with its size -/
def stkF : Nat → List α → List (D × Nat)
  | 0, _ => []
  | k + 1, l => if l.length = 0 then [] else
      (root leaf node emp (l.take (2 ^ Nat.log2 l.length)), 2 ^ Nat.log2 l.length) :: stkF k (l.drop (2 ^ Nat.log2 l.length))
def stk (l : List α) : List (D × Nat) := stkF leaf node emp l.length l

theorem stkF_fuel : ∀ (k : Nat) (l : List α), l.length ≤ k → stkF leaf node emp k l = stk leaf node emp l := by
  intro k
  induction k using Nat.strongRecOn with
  | ind k ih =>
    intro l hl
    match k, hl with
    | 0, hl => have : l = [] := List.eq_nil_of_length_eq_zero (by omega)
               subst this; rfl
    | k + 1, hl =>
      by_cases h0 : l.length = 0
      · have : l = [] := List.eq_nil_of_length_eq_zero h0
        subst this; rfl
      · obtain ⟨m, hm⟩ : ∃ m, l.length = m + 1 := ⟨l.length - 1, by omega⟩
        have hp := Nat.two_pow_pos (Nat.log2 l.length)
        have e : ∀ j, m ≤ j → j < k + 1 → stkF leaf node emp j (l.drop (2 ^ Nat.log2 l.length)) = stk leaf node emp (l.drop (2 ^ Nat.log2 l.length)) := fun j h h' =>
          ih j h' _ (by rw [List.length_drop]; omega)
        unfold stk
        rw [hm]
        simp only [stkF, if_neg h0]
        rw [e k (by omega) (by omega), e m (by omega) (by omega)]

theorem stk_nil : stk leaf node emp [] = [] := rfl
theorem stk_cons (l : List α) (h : l ≠ []) : stk leaf node emp l =
    (root leaf node emp (l.take (2 ^ Nat.log2 l.length)), 2 ^ Nat.log2 l.length) :: stk leaf node emp (l.drop (2 ^ Nat.log2 l.length)) := by
  have h0 : l.length ≠ 0 := fun e => h (List.eq_nil_of_length_eq_zero e)
  obtain ⟨m, hm⟩ : ∃ m, l.length = m + 1 := ⟨l.length - 1, by omega⟩
  have hp := Nat.two_pow_pos (Nat.log2 l.length)
  conv => lhs; unfold stk
  rw [hm]
  simp only [stkF, if_neg h0]
  rw [stkF_fuel _ _ _ _ _ (by rw [List.length_drop]; omega), hm]

/-- the sum of the nodes from the right -/
def foldR : List (D × Nat) → D
  | [] => emp
  | [(r, _)] => r
  | (r, _) :: x :: l => node r (foldR (x :: l))

theorem foldR_stk : ∀ (n : Nat) (l : List α), l.length = n → foldR node emp (stk leaf node emp l) = root leaf node emp l := by
  intro n
  induction n using Nat.strongRecOn with
  | ind n ih =>
    intro l hl
    by_cases hn : l = []
    · subst hn; rfl
    have h0 : l.length ≠ 0 := fun e => hn (List.eq_nil_of_length_eq_zero e)
    rw [stk_cons leaf node emp l hn]
    have hp := Nat.two_pow_pos (Nat.log2 l.length)
    have h1 := Nat.log2_self_le h0
    have h2 := Nat.lt_log2_self (n := l.length)
    rw [Nat.pow_succ] at h2
    by_cases he : 2 ^ Nat.log2 l.length = l.length
    · rw [he, List.drop_length, List.take_length, stk_nil]; rfl
    · have hd : l.drop (2 ^ Nat.log2 l.length) ≠ [] := by
        intro e; have := congrArg List.length e; rw [List.length_drop] at this; simp at this; omega
      have hi := ih (l.drop (2 ^ Nat.log2 l.length)).length (by rw [List.length_drop]; omega) _ rfl
      have h3 : 2 ≤ l.length := by
        rcases Nat.lt_or_ge l.length 2 with h | h
        · exfalso
          have : l.length = 1 := by omega
          rw [this] at he; exact he (by decide)
        · exact h
      have hlf : lft l.length = 2 ^ Nat.log2 l.length := lft_unique (by omega) (by omega)
      rw [root_two leaf node emp l h3, hlf, ← hi]
      rw [stk_cons leaf node emp _ hd]
      rfl

/-- merging at the end of the stack: the last two parts of one size become one, again and again (k bounds the rounds) -/
def mergeF : Nat → List (D × Nat) → List (D × Nat)
  | 0, s => s
  | k + 1, s => match s.reverse with
    | (b, m) :: (a, n) :: r => if n = m then mergeF k (r.reverse ++ [(node a b, 2 * m)]) else s
    | _ => s

/-- what merging does, as a relation -/
inductive Merges : List (D × Nat) → List (D × Nat) → Prop
  | stop {s} (h : ∀ p a b m, s ≠ p ++ [(a, m), (b, m)]) : Merges s s
  | step {p a b m s'} (h : Merges (p ++ [(node a b, 2 * m)]) s') : Merges (p ++ [(a, m), (b, m)]) s'

theorem Merges.front (x : D × Nat) : ∀ {s s' : List (D × Nat)}, Merges node s s' → (∀ a m r, s' = (a, m) :: r → r = [] → x.2 ≠ m) → s' ≠ [] → Merges node (x :: s) (x :: s') := by
  intro s s' h
  induction h with
  | stop h =>
    intro hx hne
    refine .stop fun p a b m e => ?_
    match p with
    | [] =>
      injection e with e1 e2
      rename_i s
      exact hx b m [] e2 rfl (by rw [e1])
    | y :: p =>
      injection e with e1 e2
      exact h p a b m e2
  | step _ ih => intro hx hne; exact .step (p := x :: _) (ih hx hne)

theorem stk_sizes : ∀ (n : Nat) (l : List α), l.length = n → ∀ p ∈ stk leaf node emp l, p.2 ≤ l.length := by
  intro n
  induction n using Nat.strongRecOn with
  | ind n ih =>
    intro l hl p hp
    by_cases hn : l = []
    · subst hn; cases hp
    have h0 : l.length ≠ 0 := fun e => hn (List.eq_nil_of_length_eq_zero e)
    have h1 := Nat.log2_self_le h0
    have hpos := Nat.two_pow_pos (Nat.log2 l.length)
    rw [stk_cons leaf node emp l hn] at hp
    rcases List.mem_cons.1 hp with e | hp
    · rw [e]; exact h1
    · have := ih (l.drop (2 ^ Nat.log2 l.length)).length (by rw [List.length_drop]; omega) _ rfl p hp
      rw [List.length_drop] at this; omega

/-- one part alone: the list is complete -/
theorem stk_single {l : List α} {p : D × Nat} (h : stk leaf node emp l = [p]) : l.length = p.2 ∧ p.2 = 2 ^ Nat.log2 l.length ∧ p.1 = root leaf node emp l := by
  have hn : l ≠ [] := by intro e; subst e; cases h
  have h0 : l.length ≠ 0 := fun e => hn (List.eq_nil_of_length_eq_zero e)
  have h1 := Nat.log2_self_le h0
  rw [stk_cons leaf node emp l hn] at h
  injection h with e1 e2
  have hd : l.drop (2 ^ Nat.log2 l.length) = [] := by
    apply Classical.byContradiction
    intro hd
    rw [stk_cons leaf node emp _ hd] at e2
    cases e2
  have hlen := congrArg List.length hd
  rw [List.length_drop] at hlen
  simp at hlen
  have he : 2 ^ Nat.log2 l.length = l.length := by omega
  subst e1
  refine ⟨he.symm, rfl, ?_⟩
  simp only [he, List.take_length]

theorem stk_length : ∀ (n : Nat) (l : List α), l.length = n → (stk leaf node emp l).length ≤ l.length := by
  intro n
  induction n using Nat.strongRecOn with
  | ind n ih =>
    intro l hl
    by_cases hn : l = []
    · subst hn; exact Nat.le_refl _
    have h0 : l.length ≠ 0 := fun e => hn (List.eq_nil_of_length_eq_zero e)
    have h1 := Nat.log2_self_le h0
    have hpos := Nat.two_pow_pos (Nat.log2 l.length)
    rw [stk_cons leaf node emp l hn, List.length_cons]
    have := ih (l.drop (2 ^ Nat.log2 l.length)).length (by rw [List.length_drop]; omega) _ rfl
    rw [List.length_drop] at this; omega
theorem Merges.grows {s s' : List (D × Nat)} (h : Merges node s s') : ∀ x ∈ s, ∃ y ∈ s', x.2 ≤ y.2 := by
  induction h with
  | stop _ => exact fun x hx => ⟨x, hx, Nat.le_refl _⟩
  | @step p a b m s' _ ih =>
    intro x hx
    simp only [List.mem_append, List.mem_cons, List.not_mem_nil, or_false] at hx
    rcases hx with hx | rfl | rfl
    · exact ih x (by simp [hx])
    · obtain ⟨y, h1, h2⟩ := ih (node a b, 2 * m) (by simp)
      exact ⟨y, h1, by simp at h2 ⊢; omega⟩
    · obtain ⟨y, h1, h2⟩ := ih (node a b, 2 * m) (by simp)
      exact ⟨y, h1, by simp at h2 ⊢; omega⟩

theorem stk_push : ∀ (n : Nat) (l : List α) (x : α), l.length = n → Merges node (stk leaf node emp l ++ [(leaf x, 1)]) (stk leaf node emp (l ++ [x])) := by
  intro n
  induction n using Nat.strongRecOn with
  | ind n ih =>
    intro l x hl
    by_cases hn : l = []
    · subst hn
      refine .stop fun p a b m e => ?_
      have := congrArg List.length e
      simp [stk_nil] at this
    have h0 : l.length ≠ 0 := fun e => hn (List.eq_nil_of_length_eq_zero e)
    have hpos := Nat.two_pow_pos (Nat.log2 l.length)
    have h1 := Nat.log2_self_le h0
    have h2 := Nat.lt_log2_self (n := l.length)
    rw [Nat.pow_succ] at h2
    rw [stk_cons leaf node emp l hn]
    generalize hj : Nat.log2 l.length = j at *
    have hi := ih (l.drop (2 ^ j)).length (by rw [List.length_drop]; omega) (l.drop (2 ^ j)) x rfl
    have happ : l.drop (2 ^ j) ++ [x] = (l ++ [x]).drop (2 ^ j) := by
      rw [List.drop_append_of_le_length (by omega)]
    have htk : l.take (2 ^ j) = (l ++ [x]).take (2 ^ j) := by
      rw [List.take_append_of_le_length (by omega)]
    have hne : l ++ [x] ≠ [] := by simp
    by_cases hfull : l.length + 1 = 2 * 2 ^ j
    · -- the last part and the first one merge
      have hlen : (l.drop (2 ^ j) ++ [x]).length = 2 ^ j := by simp; omega
      have hsd : stk leaf node emp (l.drop (2 ^ j) ++ [x]) = [(root leaf node emp (l.drop (2 ^ j) ++ [x]), 2 ^ j)] := by
        have hq : ∀ q : List α, q.length = 2 ^ j → q ≠ [] → stk leaf node emp q = [(root leaf node emp q, 2 ^ j)] := fun q h hne => by
          rw [stk_cons leaf node emp q hne, h, Nat.log2_two_pow, List.drop_of_length_le (by omega), List.take_of_length_le (by omega)]
          rfl
        exact hq _ hlen (by simp)
      have hlen' : (l ++ [x]).length = 2 ^ (j + 1) := by rw [Nat.pow_succ]; simp; omega
      have hs : stk leaf node emp (l ++ [x]) = [(node (root leaf node emp (l.take (2 ^ j))) (root leaf node emp (l.drop (2 ^ j) ++ [x])), 2 * 2 ^ j)] := by
        have hq : ∀ q : List α, q.length = 2 ^ (j + 1) → q ≠ [] → stk leaf node emp q = [(root leaf node emp q, 2 ^ (j + 1))] := fun q h hne => by
          rw [stk_cons leaf node emp q hne, h, Nat.log2_two_pow, List.drop_of_length_le (by omega), List.take_of_length_le (by omega)]
          rfl
        rw [hq _ hlen' hne]
        rw [root_two leaf node emp _ (by rw [hlen', Nat.pow_succ]; omega)]
        have hlf : lft (l ++ [x]).length = 2 ^ j := lft_unique (by rw [hlen', Nat.pow_succ]; omega) (by rw [hlen', Nat.pow_succ]; omega)
        rw [hlf, ← htk, ← happ, Nat.pow_succ, Nat.mul_comm]
      rw [hsd] at hi
      rw [hs]
      -- the tail merges to one part; then the front one
      have front2 : ∀ {s s' : List (D × Nat)}, Merges node s s' → ∀ (r : D) (m : Nat), s' = [(r, m)] → ∀ a s'', Merges node [(a, m), (r, m)] s'' → Merges node ((a, m) :: s) s'' := by
        intro s s' h
        induction h with
        | stop h => intro r m e a s'' h''; subst e; exact h''
        | step _ ih2 => intro r m e a s'' h''; exact .step (p := (a, m) :: _) (ih2 r m e a s'' h'')
      refine front2 hi _ _ rfl _ _ ?_
      refine .step (p := []) (.stop fun p a b m e => ?_)
      have := congrArg List.length e
      simp at this
    · have hlog : Nat.log2 (l ++ [x]).length = j := by
        apply (Nat.log2_eq_iff (by simp)).2
        rw [Nat.pow_succ]; simp; omega
      rw [stk_cons leaf node emp (l ++ [x]) hne, hlog, ← happ, ← htk]
      refine Merges.front node _ hi ?_ ?_
      · intro a m r hs hr hm
        subst hr
        have := (stk_single leaf node emp hs).1
        simp only [List.length_append, List.length_drop, List.length_cons, List.length_nil] at this
        simp only at hm this
        omega
      · rw [stk_cons leaf node emp _ (by simp)]; simp
end
end Dig
namespace Go.Proofs.YtljgphmdiflphaaDoor
open Go.RowKit
set_option linter.unusedVariables false

/-- a byte, and strings one after the other -/
def catB (m : UInt8) (l : List ByteArray) : ByteArray := ⟨(m :: l.flatMap (·.data.toList)).toArray⟩
def leafB (s : ByteArray) : ByteArray := sumB (catB 0 [s])
def nodeB (a b : ByteArray) : ByteArray := sumB (catB 1 [a, b])
def chainB (h r : ByteArray) : ByteArray := sumB (catB 2 [h, r])
theorem catB_size (m : UInt8) (l : List ByteArray) : (catB m l).size = 1 + (l.map (·.size)).sum := by
  show (m :: l.flatMap (·.data.toList)).toArray.size = _
  rw [List.size_toArray, List.length_cons, List.length_flatMap, Nat.add_comm]
  rfl

theorem _root_.Go.RowKit.Below.of_drew {B : Nat} {w w' : World} (h : Below B w.drew w') : Below B w w' := ⟨h.os, h.tape, h.output, h.size, h.block⟩
theorem _root_.Go.RowKit.Below.of_drewN {B n : Nat} {w w' : World} (h : Below B (w.drewN n) w') : Below B w w' := ⟨h.os, h.tape, h.output, h.size, h.block⟩

theorem join_empty (l : List (List UInt8)) : Lib.join l [] = l.flatten := by
  induction l with
  | nil => rfl
  | cons x l ih =>
    cases l with
    | nil => simp [Lib.join]
    | cons y l => simp [Lib.join] at ih ⊢; exact ih

set_option maxRecDepth 100000 in
set_option maxHeartbeats 2000000 in
theorem marked1_any (m : UInt8) (bm : Nat) (bk c : Nat) (xs : List ByteArray) (w : World) (hm : w.cell? ⟨bm, 0, none⟩ = some (.string ⟨#[m]⟩)) (hbm : bm < w.heap.size) (hcells : ∀ (j : Nat) x, xs[j]? = some x → w.cell? ⟨bk, 0 + j, none⟩ = some (.string x)) (hbk : bk < w.heap.size)
    (hN : xs.length ≤ c) (hlen : (xs.map (·.size)).sum ≤ 900000) (hx : xs.length ≤ 100000) (hR : RoundLaid w) :
    Calls Tryd.prog 89 #[.slice (some ⟨bk, 0, none⟩) xs.length c, .pointer (some ⟨bm, 0, none⟩)] w fun e w' => e = .returned (.string (sumB (catB m xs))) ∧ Below w.heap.size w w' := by
  have hjl : Lib.join (xs.map (·.data.toList)) (⟨#[]⟩ : ByteArray).data.toList = xs.flatMap (·.data.toList) := by
    rw [show (⟨#[]⟩ : ByteArray).data.toList = [] from rfl, join_empty, List.flatMap_def]
  have hfl : (xs.flatMap (·.data.toList)).length = (xs.map (·.size)).sum := by rw [List.length_flatMap]; rfl
  have JN := Lib.hid (fun W (hc : ∀ (j : Nat) x, xs[j]? = some x → W.cell? ⟨bk, 0 + j, none⟩ = some (.string x)) (hb : bk < W.heap.size) => Tryd.strings_Join bk 0 c xs ⟨#[]⟩ W hc hb (by omega) hN (by rw [hjl, hfl]; omega))
  rw [hjl] at JN
  have hcat : (⟨#[m]⟩ : ByteArray) ++ ⟨(xs.flatMap (·.data.toList)).toArray⟩ = catB m xs := by
    unfold catB
    apply ByteArray.ext
    simp
  obtain ⟨jn, hjn⟩ : ∃ jn : ByteArray, (⟨(xs.flatMap (·.data.toList)).toArray⟩ : ByteArray) = jn := ⟨_, rfl⟩
  have hjs : jn.size ≤ 900000 := by rw [← hjn]; show (xs.flatMap (·.data.toList)).toArray.size ≤ _; rw [List.size_toArray, hfl]; exact hlen
  have hjb : ¬ 9223372036854775807 < 1 + jn.size := by omega
  rw [hjn] at JN hcat
  clear hjn
  have SU := Lib.hid (fun W => Sum_any (catB m xs) (by rw [catB_size]; omega) W)
  rw [← hcat] at SU
  have HC := Lib.hid hcat
  have HR := Lib.hid hR
  have HCE := Lib.hid hcells
  clear hcat hjl hfl hcells hR
  go_enter Tryd.func89, Tryd.ntmps89
  go_wp2
  go_region_held3 (fun w' => w'.cell? ⟨bm, 0, none⟩ = some (.string ⟨#[m]⟩))
    ((first | go_keep))
    (first
      | (go_at_call 90
         refine (JN.out _ (by exact fun j x hj => HCE.out j x hj) (by exact hbk)).mono ?_
         rintro e w2 ⟨rfl, h2⟩
         have H2 : Hid (Below w.heap.size w w2) := Lib.hid h2.of_drew
         have hm2 : w2.cell? ⟨bm, 0, none⟩ = some (.string ⟨#[m]⟩) := (H2.out.cell (p := ⟨bm, 0, none⟩) hbm).trans hm
         clear h2)
      | (go_at_call 29
         refine (SU.out _ (HR.out.below H2.out)).mono ?_
         rintro e w3 ⟨rfl, h3⟩
         have H3 : Hid (Below w.heap.size w w3) := Lib.hid (H2.out.trans (h3.mono H2.out.size))
         have hm3 : w3.cell? ⟨bm, 0, none⟩ = some (.string ⟨#[m]⟩) := (H3.out.cell (p := ⟨bm, 0, none⟩) hbm).trans hm
         clear h3))
  rw [HC.out]
  go_wp2
  go_ret
  exact ⟨rfl, H3.out⟩

set_option maxHeartbeats 1000000 in
theorem marked_any (m : ByteArray) (w : World) :
    Calls Tryd.prog 63 #[.string m] w fun e w' => e = .returned (.func (.func 89) #[] #[.pointer (some ⟨w.heap.size, 0, none⟩)]) ∧ w.alloc (.cells #[.string m] 9) = w' := by
  go_enter Tryd.func63, Tryd.ntmps63
  go_wp2
  go_ret
  exact ⟨rfl, rfl⟩

theorem two_cells {w : World} (o : Obj) (t : TypeId) (xs : List ByteArray) : ∀ (j : Nat) x, xs[j]? = some x → ((w.alloc o).alloc (.cells (xs.map Value.string).toArray t)).cell? ⟨w.heap.size + 1, 0 + j, none⟩ = some (.string x) := fun j x hj => by
  rw [Nat.zero_add, cellOf (allocAt _ (by simp)) j]
  simp [hj]

set_option maxRecDepth 100000 in
set_option maxHeartbeats 1000000 in
theorem Leaf_any (s : ByteArray) (hs : s.size ≤ 900000) (w : World) (hR : RoundLaid w) :
    Calls Tryd.prog 28 #[.string s] w fun e w' => e = .returned (.string (leafB s)) ∧ Below w.heap.size w w' := by
  have hb : Below w.heap.size w ((w.alloc (.cells #[.string ⟨#[0]⟩] 9)).alloc (.cells #[.string s] 9)) := ((Below.refl _ w).alloc (Nat.le_refl _) _).alloc (by simp) _
  have M := Lib.hid (marked1_any 0 w.heap.size (w.heap.size + 1) 1 [s] _ (by rw [cellOf (by rw [allocOld (by simp)]; exact allocAt _ rfl)]; rfl) (by simp; omega) (two_cells (w := w) (.cells #[.string ⟨#[0]⟩] 9) 9 [s]) (by simp) (by simp) (by simpa using hs) (by simp) (hR.below hb))
  have HB := Lib.hid hb
  clear hb hR
  go_enter Tryd.func28, Tryd.ntmps28
  go_wp2_with fail
  refine (marked_any _ _).mono ?_
  rintro e w' ⟨rfl, rfl⟩
  go_wp2_with fail
  refine M.out.mono ?_
  rintro e w' ⟨rfl, h2⟩
  have H2 := Lib.hid h2
  clear h2
  go_wp2_with fail
  go_ret
  exact ⟨rfl, HB.out.trans (H2.out.mono (by simp; omega))⟩

set_option maxRecDepth 100000 in
set_option maxHeartbeats 1000000 in
theorem Node_any (a b : ByteArray) (hs : a.size + b.size ≤ 900000) (w : World) (hR : RoundLaid w) :
    Calls Tryd.prog 31 #[.string a, .string b] w fun e w' => e = .returned (.string (nodeB a b)) ∧ Below w.heap.size w w' := by
  have hb : Below w.heap.size w ((w.alloc (.cells #[.string ⟨#[1]⟩] 9)).alloc (.cells #[.string a, .string b] 9)) := ((Below.refl _ w).alloc (Nat.le_refl _) _).alloc (by simp) _
  have M := Lib.hid (marked1_any 1 w.heap.size (w.heap.size + 1) 2 [a, b] _ (by rw [cellOf (by rw [allocOld (by simp)]; exact allocAt _ rfl)]; rfl) (by simp; omega) (two_cells (w := w) (.cells #[.string ⟨#[1]⟩] 9) 9 [a, b]) (by simp) (by simp) (by simpa using hs) (by simp) (hR.below hb))
  have HB := Lib.hid hb
  clear hb hR
  go_enter Tryd.func31, Tryd.ntmps31
  go_wp2_with fail
  refine (marked_any _ _).mono ?_
  rintro e w' ⟨rfl, rfl⟩
  go_wp2_with fail
  refine M.out.mono ?_
  rintro e w' ⟨rfl, h2⟩
  have H2 := Lib.hid h2
  clear h2
  go_wp2_with fail
  go_ret
  exact ⟨rfl, HB.out.trans (H2.out.mono (by simp; omega))⟩

set_option maxRecDepth 100000 in
set_option maxHeartbeats 1000000 in
theorem Chain_any (a b : ByteArray) (hs : a.size + b.size ≤ 900000) (w : World) (hR : RoundLaid w) :
    Calls Tryd.prog 35 #[.string a, .string b] w fun e w' => e = .returned (.string (chainB a b)) ∧ Below w.heap.size w w' := by
  have hb : Below w.heap.size w ((w.alloc (.cells #[.string ⟨#[2]⟩] 9)).alloc (.cells #[.string a, .string b] 9)) := ((Below.refl _ w).alloc (Nat.le_refl _) _).alloc (by simp) _
  have M := Lib.hid (marked1_any 2 w.heap.size (w.heap.size + 1) 2 [a, b] _ (by rw [cellOf (by rw [allocOld (by simp)]; exact allocAt _ rfl)]; rfl) (by simp; omega) (two_cells (w := w) (.cells #[.string ⟨#[2]⟩] 9) 9 [a, b]) (by simp) (by simp) (by simpa using hs) (by simp) (hR.below hb))
  have HB := Lib.hid hb
  clear hb hR
  go_enter Tryd.func35, Tryd.ntmps35
  go_wp2_with fail
  refine (marked_any _ _).mono ?_
  rintro e w' ⟨rfl, rfl⟩
  go_wp2_with fail
  refine M.out.mono ?_
  rintro e w' ⟨rfl, h2⟩
  have H2 := Lib.hid h2
  clear h2
  go_wp2_with fail
  go_ret
  exact ⟨rfl, HB.out.trans (H2.out.mono (by simp; omega))⟩
end Go.Proofs.YtljgphmdiflphaaDoor
namespace Go.Proofs.YtljgphmdiflphaaDoor
open Go.RowKit
set_option linter.unusedVariables false

theorem bitLenAux_log2 : ∀ (f x : Nat), 0 < x → x < 2 ^ f → Lib.bitLenAux f x = Nat.log2 x + 1
  | 0, x, h1, h2 => by omega
  | f + 1, x, h1, h2 => by
    rw [Lib.bitLenAux, if_neg (by omega)]
    by_cases h : x < 2
    · have : x = 1 := by omega
      subst this
      rw [show 1 / 2 = 0 from rfl]
      cases f <;> simp [Lib.bitLenAux, Nat.log2_def]
    · rw [bitLenAux_log2 f (x / 2) (by omega) (by rw [Nat.pow_succ] at h2; omega)]
      rw [Nat.log2_def x, if_pos (by omega)]
      omega
theorem bitLen_log2 (x : Nat) (h1 : 0 < x) (h2 : x < 2 ^ 64) : Lib.bitLen x = Nat.log2 x + 1 := bitLenAux_log2 64 x h1 h2

set_option maxHeartbeats 1000000 in
theorem left_any (n : Nat) (h2 : 2 ≤ n) (h63 : n ≤ 9223372036854775807) (w : World) :
    Calls Tryd.prog 53 #[.int .i64 (n : Int)] w fun e w' => e = .returned (.int .i64 (Dig.lft n : Nat)) ∧ w = w' := by
  obtain ⟨k, hk⟩ : ∃ k, Nat.log2 (n - 1) = k := ⟨_, rfl⟩
  have hk62 : k ≤ 62 := by
    have h := Nat.log2_self_le (n := n - 1) (by omega)
    rw [hk] at h
    rcases Nat.lt_or_ge 62 k with h' | h'
    · have : 2 ^ 63 ≤ 2 ^ k := Nat.pow_le_pow_right (by decide) h'
      omega
    · exact h'
  have BL : Hid (Calls Tryd.prog 85 #[.int .u64 ((n : Int) - 1)] w fun e w' => e = .returned (.int .i64 ((k : Int) + 1)) ∧ w = w') := Lib.hid
    ((Tryd.bits_Len ((n : Int) - 1) w (by omega) (by omega)).mono fun e w' ⟨h1, h2⟩ => ⟨by rw [h1, show ((n : Int) - 1).toNat = n - 1 by omega, bitLen_log2 _ (by omega) (by omega), hk]; rfl, h2.symm⟩)
  have E : Hid (Dig.lft n = 2 ^ k) := Lib.hid (by rw [Dig.lft, hk])
  have hp : 2 ^ k ≤ 2 ^ 62 := Nat.pow_le_pow_right (by decide) hk62
  have P : Hid (wrap64 (2 ^ k) = ((2 ^ k : Nat) : Int)) := Lib.hid (by
    rw [show ((2 : Int) ^ k) = ((2 ^ k : Nat) : Int) by simp]
    generalize 2 ^ k = y at hp
    unfold wrap64; omega)
  clear hk hp
  go_enter Tryd.func53, Tryd.ntmps53
  go_wp2_with (go_at_call 85; refine BL.out.mono ?_; rintro e w' ⟨rfl, rfl⟩)
  go_ret
  exact ⟨ret_int (by rw [P.out, E.out]), rfl⟩

theorem ret_bool {a b : Bool} (h : a = b) : Ending.returned (.bool a) = .returned (.bool b) := by rw [h]

/-- A slice that reads as a list of strings. -/
structure SL (w : World) (sv : Value) (l : List ByteArray) : Prop where
  form : ∃ a cap, sv = .slice a l.length cap ∧ l.length ≤ cap ∧ (0 < l.length → ∃ b off, a = some ⟨b, off, none⟩ ∧ b < w.heap.size ∧ ∀ j x, l[j]? = some x → w.cell? ⟨b, off + j, none⟩ = some (.string x))
theorem SL.below {w w' : World} {sv : Value} {l : List ByteArray} (h : SL w sv l) (hb : Below w.heap.size w w') : SL w' sv l := by
  obtain ⟨a, cap, e, h1, h2⟩ := h.form
  refine ⟨a, cap, e, h1, fun h0 => ?_⟩
  obtain ⟨b, off, ea, hlt, hc⟩ := h2 h0
  exact ⟨b, off, ea, Nat.lt_of_lt_of_le hlt hb.size, fun j x hj => (hb.cell (p := ⟨b, off + j, none⟩) hlt).trans (hc j x hj)⟩
theorem SL.nil (w : World) : SL w (.slice none 0 0) [] := ⟨none, 0, rfl, Nat.le_refl _, fun h => absurd h (by simp)⟩

set_option maxHeartbeats 1000000 in
theorem isDigest_any (s : ByteArray) (hs : s.size ≤ 9223372036854775807) (w : World) :
    Calls Tryd.prog 62 #[.string s] w fun e w' => e = .returned (.bool (s.size == 32)) ∧ w = w' := by
  go_enter Tryd.func62, Tryd.ntmps62
  go_wp2
  go_ret
  exact ⟨ret_bool (by rw [Bool.eq_iff_iff]; simp; omega), rfl⟩

set_option maxHeartbeats 1000000 in
theorem join_any (r p : ByteArray) (first : Bool) (hs : r.size + p.size ≤ 900000) (w : World) (hR : RoundLaid w) :
    Calls Tryd.prog 61 #[.agg #[.string r, .bool first], .string p] w fun e w' => e = .returned (.string (if first then nodeB r p else nodeB p r)) ∧ Below w.heap.size w w' := by
  have hb : Below w.heap.size w (w.alloc (.cells #[.string r, .bool first] 75)) := (Below.refl _ w).alloc (Nat.le_refl _) _
  have HB := Lib.hid hb
  cases first with
  | true =>
    have N := Lib.hid (fun W (h : RoundLaid W) => Node_any r p hs W h)
    have HR := Lib.hid (hR.below hb)
    clear hb hR
    go_enter Tryd.func61, Tryd.ntmps61
    go_wp2_with (go_at_call 31; refine (N.out _ HR.out).mono ?_; rintro e w' ⟨rfl, h2⟩; have H2 := Lib.hid h2; clear h2)
    go_ret
    exact ⟨rfl, HB.out.trans (H2.out.mono (by simp))⟩
  | false =>
    have N := Lib.hid (fun W (h : RoundLaid W) => Node_any p r (by omega) W h)
    have HR := Lib.hid (hR.below hb)
    clear hb hR
    go_enter Tryd.func61, Tryd.ntmps61
    go_wp2_with (go_at_call 31; refine (N.out _ HR.out).mono ?_; rintro e w' ⟨rfl, h2⟩; have H2 := Lib.hid h2; clear h2)
    go_ret
    exact ⟨rfl, HB.out.trans (H2.out.mono (by simp))⟩

set_option maxHeartbeats 1000000 in
theorem take_none (a : Option Addr) (c : Nat) (w : World) :
    Calls Tryd.prog 59 #[.slice a 0 c] w fun e w' => e = .returned (.tuple #[.string ⟨#[]⟩, .slice none 0 0, .bool false]) ∧ w = w' := by
  go_enter Tryd.func59, Tryd.ntmps59
  go_wp2
  go_ret3
  exact ⟨rfl, rfl⟩

set_option maxHeartbeats 1000000 in
theorem take_some (b off n c : Nat) (x : ByteArray) (w : World) (hn : (n : Int) + 1 ≤ 9223372036854775807) (hc : n + 1 ≤ c) (hx : w.cell? ⟨b, off + n, none⟩ = some (.string x)) :
    Calls Tryd.prog 59 #[.slice (some ⟨b, off, none⟩) (n + 1) c] w fun e w' => e = .returned (.tuple #[.string x, .slice (some ⟨b, off, none⟩) n c, .bool true]) ∧ ∃ k, w' = w.drewN k := by
  have q0 : ((n : Int) + 1 == 0) = false := beq_false_of_ne (by omega)
  have q1 : (n : Int) < (n : Int) + 1 := by omega
  have q2 : (n : Int) ≤ (c : Int) := by omega
  go_enter Tryd.func59, Tryd.ntmps59
  go_wp2
  go_quiet (fail)
  go_wp2
  go_ret3
  exact ⟨rfl, _, rfl⟩
end Go.Proofs.YtljgphmdiflphaaDoor
namespace Go.Proofs.YtljgphmdiflphaaDoor
open Go.RowKit
set_option linter.unusedVariables false

/-- the number that slices.IndexFunc answers -/
def idxS (p : ByteArray → Bool) (l : List ByteArray) : Int := match l.findIdx? p with | some i => (i : Int) | none => -1
theorem idxS_any (p : ByteArray → Bool) (l : List ByteArray) : decide (0 ≤ idxS p l) = l.any p := by
  unfold idxS
  cases h : l.findIdx? p with
  | none =>
    rw [List.findIdx?_eq_none_iff] at h
    have : l.any p = false := List.any_eq_false.2 fun x hx => by simp [h x hx]
    rw [this]; rfl
  | some i =>
    obtain ⟨h1, h2, _⟩ := List.findIdx?_eq_some_iff_getElem.1 h
    have : l.any p = true := List.any_eq_true.2 ⟨l[i], List.getElem_mem h1, h2⟩
    rw [this]; simp

set_option maxHeartbeats 1000000 in
theorem IndexS_any (w : World) (sv : Value) (l : List ByteArray) (hsl : SL w sv l) (hlen : l.length ≤ 1000000000) (fn : Nat) (caps : Array Value) (hcap : caps.size ≤ 3) (p : ByteArray → Bool)
    (ha : ∀ s, s ∈ l → Calls Tryd.prog fn (#[.string s] ++ caps) w fun e w' => e = .returned (.bool (p s)) ∧ w = w') (hen : ∀ args w, (callFunc fn args).run Tryd.prog w = .ok (.enter fn args) w) :
    Calls Tryd.prog 112 #[sv, .func (.func fn) #[] caps] w fun e w' => e = .returned (.int .i64 (idxS p l)) ∧ w = w' := by
  obtain ⟨a, cap, rfl, hcp, hne⟩ := hsl.form
  obtain ⟨n, hn⟩ : ∃ n, l.length = n := ⟨_, rfl⟩
  have HA := Lib.hid ha
  have HN := Lib.hid hn
  rw [hn] at hlen ⊢
  have HNE := Lib.hid hne
  clear ha hn hne hsl
  go_enter Tryd.func112, Tryd.ntmps112
  go_wp2
  go_loop [8] (fun i => ∃ k : Nat, k ≤ n ∧ i = .int .i64 k ∧ Hid (∀ j, (h : j < l.length) → j < k → p l[j] = false)) (fun i => n - (intOf i).toNat)
  case atStart => exact ⟨0, Nat.zero_le _, rfl, fun j _ h => by omega⟩
  case round =>
    obtain ⟨k, hk, rfl, hb⟩ := hrel
    by_cases hlt : k < n
    · have hk' : k < l.length := by rw [HN.out]; exact hlt
      obtain ⟨b, off, rfl, hbl, hcs⟩ := HNE.out (by omega)
      have c : w.cell? ⟨b, off + k, none⟩ = some (.string l[k]) := hcs k _ (List.getElem?_eq_getElem hk')
      have HM : Hid (l[k] ∈ l) := Lib.hid (List.getElem_mem hk')
      clear hcs
      obtain ⟨z, hz⟩ : ∃ z, l[k] = z := ⟨_, rfl⟩
      rw [hz] at c HM
      have HZ := Lib.hid hz
      clear hz
      cases hp : p z with
      | true =>
        have hfin : idxS p l = k := by
          unfold idxS
          rw [show l.findIdx? p = some k from List.findIdx?_eq_some_iff_getElem.2 ⟨hk', by rw [HZ.out]; exact hp, fun j hj => by simp [hb.out j (by omega) hj]⟩]
        have HF := Lib.hid hfin
        have HP := Lib.hid hp
        clear hp hfin
        go_wp2_with fail
        refine (HA.out z HM.out).mono ?_
        rintro e w' ⟨rfl, rfl⟩
        rw [HP.out]
        go_wp2_with fail
        go_ret
        rw [HF.out]
        exact ⟨rfl, rfl⟩
      | false =>
        have HP := Lib.hid hp
        clear hp
        go_wp2_with fail
        refine (HA.out z HM.out).mono ?_
        rintro e w' ⟨rfl, rfl⟩
        rw [HP.out]
        go_wp2_with fail
        go_round
        case rel =>
          refine ⟨k + 1, by omega, by go_num, fun j h hj => ?_⟩
          by_cases e : j = k
          · subst e; rw [HZ.out]; exact HP.out
          · exact hb.out j h (by omega)
        case measure => simp [intOf]; omega
    · obtain rfl : k = n := by omega
      have hfin : idxS p l = -1 := by
        unfold idxS
        rw [show l.findIdx? p = none from List.findIdx?_eq_none_iff.2 fun x hx => by
          obtain ⟨j, hj, rfl⟩ := List.getElem_of_mem hx
          exact hb.out j hj (by rw [← HN.out]; exact hj)]
      have HF := Lib.hid hfin
      clear hfin
      go_wp2
      go_ret
      rw [HF.out]
      exact ⟨rfl, rfl⟩

set_option maxHeartbeats 1000000 in
theorem ContainsS_any (w : World) (sv : Value) (l : List ByteArray) (hsl : SL w sv l) (hlen : l.length ≤ 1000000000) (fn : Nat) (caps : Array Value) (hcap : caps.size ≤ 3) (p : ByteArray → Bool)
    (ha : ∀ s, s ∈ l → Calls Tryd.prog fn (#[.string s] ++ caps) w fun e w' => e = .returned (.bool (p s)) ∧ w = w') (hen : ∀ args w, (callFunc fn args).run Tryd.prog w = .ok (.enter fn args) w) :
    Calls Tryd.prog 79 #[sv, .func (.func fn) #[] caps] w fun e w' => e = .returned (.bool (l.any p)) ∧ w = w' := by
  have IX := Lib.hid (IndexS_any w sv l hsl hlen fn caps hcap p ha hen)
  have HX := Lib.hid (idxS_any p l)
  generalize idxS p l = z at *
  clear hsl ha
  go_enter Tryd.func79, Tryd.ntmps79
  go_wp2_with fail
  refine IX.out.mono ?_
  rintro e w' ⟨rfl, rfl⟩
  go_wp2
  go_ret
  exact ⟨ret_bool HX.out, rfl⟩

set_option maxHeartbeats 1000000 in
theorem all1_any (s : ByteArray) (hs : s.size ≤ 9223372036854775807) (w : World) :
    Calls Tryd.prog 87 (#[.string s] ++ #[]) w fun e w' => e = .returned (.bool (!(s.size == 32))) ∧ w = w' := by
  go_enter Tryd.func87, Tryd.ntmps87
  go_wp2_with fail
  refine (isDigest_any s hs _).mono ?_
  rintro e w' ⟨rfl, rfl⟩
  go_wp2
  go_ret
  exact ⟨rfl, rfl⟩

/-- are all strings digests? -/
def allD (l : List ByteArray) : Bool := !(l.any fun s => !(s.size == 32))
theorem allD_iff (l : List ByteArray) : allD l = true ↔ ∀ s ∈ l, s.size = 32 := by simp [allD]

set_option maxHeartbeats 1000000 in
theorem all_any (w : World) (sv : Value) (l : List ByteArray) (hsl : SL w sv l) (hlen : l.length ≤ 1000000000) (hs : ∀ s ∈ l, s.size ≤ 9223372036854775807) :
    Calls Tryd.prog 58 #[sv] w fun e w' => e = .returned (.bool (allD l)) ∧ w = w' := by
  have CO := Lib.hid (ContainsS_any w sv l hsl hlen 87 #[] (by simp) (fun s => !(s.size == 32)) (fun s h => all1_any s (hs s h) w) (enters_of Tryd.func87 (by kernel_rfl) rfl))
  clear hsl hs
  go_enter Tryd.func58, Tryd.ntmps58
  go_wp2_with fail
  refine CO.out.mono ?_
  rintro e w' ⟨rfl, rfl⟩
  go_wp2
  go_ret
  exact ⟨rfl, rfl⟩
end Go.Proofs.YtljgphmdiflphaaDoor
namespace Go.Proofs.YtljgphmdiflphaaDoor
open Go.RowKit Go.Shelf
set_option linter.unusedVariables false

attribute [local go_sem] Oper.semAt_some

theorem finRev_take (n j : Nat) (h0 : 0 < j) (h : j ≤ n) : (List.finRange n).reverse.take (n - (j - 1)) = (List.finRange n).reverse.take (n - j) ++ [⟨j - 1, by omega⟩] := by
  rw [show n - (j - 1) = (n - j) + 1 by omega, List.take_succ_eq_append_getElem (by simp; omega)]
  congr 2
  rw [List.getElem_reverse]
  simp
  omega

set_option maxRecDepth 100000 in
set_option maxHeartbeats 2000000 in
theorem back1_in (n : Nat) (hn : 1 ≤ n) (l Bs g off cap : Nat) (L : List ByteArray) (hL : L.length ≤ 100000000) (J Jx : List (Fin L.length) → World → Prop)
    (hY : ∀ pre x W, J pre W → pre.length < L.length → YieldAt Fence.wide (n - 1) Tryd.prog l #[.int .i64 (x.1 : Int), .string L[x]] W fun e W' =>
      (e = .returned (.bool true) ∧ J (pre ++ [x]) W' ∧ KeepT (fun k => k = Bs ∨ k = g) W W') ∨ (e = .returned (.bool false) ∧ Jx (pre ++ [x]) W'))
    (W : World) (fs : Nat × Nat) (ts : TypeId) (a : Option Addr) (ha : 0 < L.length → a = some ⟨g, off, none⟩) (hBs : W.heap[Bs]? = some (.cells #[.slice a L.length cap] ts fs)) (hc : ∀ j x, L[j]? = some x → W.cell? ⟨g, off + j, none⟩ = some (.string x)) (h0 : J [] W) :
    CallsIn Fence.wide n Tryd.prog 86 #[.func (.yield l) #[] #[], .pointer (some ⟨Bs, 0, none⟩)] W fun e W' => (∃ v, e = .returned v) ∧
      ((∃ ys, ys = (List.finRange L.length).reverse ∧ J ys W') ∨ (∃ pre, True ∧ Jx pre W')) := by
  have HBs := Lib.hid hBs
  have HC := Lib.hid hc
  have HA := Lib.hid ha
  clear hBs hc ha
  have c0 : W.cell? ⟨Bs, 0, none⟩ = some (.slice a L.length cap) := by rw [cellOf HBs.out]; rfl
  obtain ⟨m, hm⟩ : ∃ m, L.length = m := ⟨_, rfl⟩
  have HM := Lib.hid hm
  have HTK := Lib.hid (finRev_take L.length)
  refine callsIn_of_wp Tryd.func86 rfl trivial ?_ rfl
  simp only [Tryd.ntmps86, List.size_toArray, List.length_cons, List.length_nil, Nat.reduceAdd, Nat.reduceSub, Array.replicate_succ, Array.replicate_zero, List.push_toArray, List.append_toArray, List.nil_append, List.cons_append]
  rw [hm] at c0 hL
  clear hm
  gi_wp2
  gi_loopw [3] (fun i wr => ∃ j : Nat, j ≤ m ∧ i = .int .i64 ((j : Int) - 1) ∧ J ((List.finRange L.length).reverse.take (m - j)) wr ∧ KeepT (fun k => k = Bs ∨ k = g) W wr)
    (fun i _ => (intOf i + 1).toNat)
  case atStart => exact ⟨m, Nat.le_refl _, rfl, by simpa using h0, KeepT.refl _ _⟩
  case round =>
    clear c0
    obtain ⟨j, hj, rfl, hJs, hkt⟩ := hrel
    have cs : wr.cell? ⟨Bs, 0, none⟩ = some (.slice a m cap) := by rw [cellOf ((hkt.2 Bs (.inl rfl)).trans HBs.out), ← HM.out]; rfl
    have HKT := Lib.hid hkt
    clear hkt
    by_cases hlt : 0 < j
    · obtain ⟨q, rfl⟩ : ∃ q, j = q + 1 := ⟨j - 1, by omega⟩
      have hq : q < L.length := by rw [HM.out]; omega
      obtain rfl := HA.out (by omega)
      have c1 : wr.cell? ⟨g, off + q, none⟩ = some (.string (L[q]'hq)) := by
        rw [World.cell?_of_block (w := W) (HKT.out.2 g (.inr rfl))]; exact HC.out q _ (List.getElem?_eq_getElem hq)
      obtain ⟨fn, tmps, assign, body, hy, hR⟩ := hY _ ⟨q, hq⟩ wr hJs (by rw [List.length_take, List.length_reverse, List.length_finRange, HM.out]; omega)
      have hx : L[(⟨q, hq⟩ : Fin L.length)] = L[q]'hq := rfl
      rw [hx] at hy
      dsimp only at hy
      have HTQ := HTK.out (q + 1) (by omega) (by rw [HM.out]; omega)
      have HTQ' : Hid ((List.finRange L.length).reverse.take (m - q) = (List.finRange L.length).reverse.take (m - (q + 1)) ++ [⟨q, hq⟩]) := Lib.hid (by
        have a1 : L.length - (q + 1 - 1) = m - q := by have := HM.out; omega
        have a2 : L.length - (q + 1) = m - (q + 1) := by have := HM.out; omega
        rw [a1, a2] at HTQ; exact HTQ)
      clear HTQ hx
      generalize L[q]'hq = x at *
      rw [show (((q + 1 : Nat) : Int) - 1) = (q : Int) by omega]
      have b0 : (q : Int) < (m : Int) := by omega
      gi_wp2
      refine hR.mono ?_
      rintro e W3 (⟨rfl, hJ3, hk3⟩ | ⟨rfl, hJx3⟩)
      · have HK3 := Lib.hid (HKT.out.trans hk3)
        clear hk3
        gi_wp2
        go_roundw
        case rel => exact ⟨q, by omega, rfl, by rw [HTQ'.out]; exact hJ3, HK3.out⟩
        case measure => simp [intOf]
      · gi_wp2
        refine bodyPost_ret (results_none rfl _ _ _) rfl ?_
        exact ⟨⟨_, rfl⟩, .inr ⟨_, trivial, hJx3⟩⟩
    · obtain rfl : j = 0 := by omega
      rw [show (((0 : Nat) : Int) - 1) = -1 from rfl]
      gi_wp2
      go_end0
      exact ⟨⟨_, rfl⟩, .inl ⟨_, rfl, by rwa [List.take_of_length_le (by rw [List.length_reverse, List.length_finRange, HM.out]; omega)] at hJs⟩⟩

theorem back_stops (n : Nat) (hn : 1 ≤ n) (Bs g off cap : Nat) (L : List ByteArray) (hL : L.length ≤ 100000000) (w : World) (fs : Nat × Nat) (ts : TypeId)
    (a : Option Addr) (ha : 0 < L.length → a = some ⟨g, off, none⟩) (hBs : w.heap[Bs]? = some (.cells #[.slice a L.length cap] ts fs)) (hg : 0 < L.length → g < w.heap.size) (hc : ∀ j x, L[j]? = some x → w.cell? ⟨g, off + j, none⟩ = some (.string x)) :
    SeqStopsK Fence.wide n Tryd.prog 86 #[.pointer (some ⟨Bs, 0, none⟩)] (fun x : Fin L.length => #[Value.int .i64 (x.1 : Int), Value.string L[x]]) (KeepT (fun k => k = Bs ∨ k = g))
      (fun ys => ys = (List.finRange L.length).reverse) (fun _ => True) L.length w := fun l J Jx W hW hJ _ hY h0 =>
  back1_in n hn l Bs g off cap L hL J Jx hY W fs ts a ha (by rw [hW.block _ (ltOf hBs)]; exact hBs) (fun j x hj => (hW.cell (p := ⟨g, off + j, none⟩) (hg (by have := (List.getElem?_eq_some_iff.1 hj).1; omega))).trans (hc j x hj)) h0

set_option maxHeartbeats 1000000 in
theorem Back_any (v : Value) (hv : v.oneCell' = true) (w : World) :
    Calls Tryd.prog 57 #[v] w fun e w' => e = .returned (.func (.func 86) #[] #[.pointer (some ⟨w.heap.size, 0, none⟩)]) ∧ w.alloc (.cells #[v] 22) = w' := by
  go_enter Tryd.func57, Tryd.ntmps57
  go_wp2
  go_ret
  exact ⟨rfl, rfl⟩
end Go.Proofs.YtljgphmdiflphaaDoor
namespace Go.Proofs.YtljgphmdiflphaaDoor
open Go.RowKit Go.Shelf
set_option linter.unusedVariables false

attribute [local go_sem] Oper.semAt_some

/-- a side of a way in memory -/
def sideV (s : ByteArray × Bool) : List Value := [.string s.1, .bool s.2]
def sidesV (l : List (ByteArray × Bool)) : List Value := l.flatMap sideV
def sideA (s : ByteArray × Bool) : Value := .agg #[.string s.1, .bool s.2]
theorem sidesV_length (l : List (ByteArray × Bool)) : (sidesV l).length = l.length * 2 := by
  induction l with
  | nil => rfl
  | cons x l ih => simp only [sidesV, List.flatMap_cons, List.length_append, sideV, List.length_cons, List.length_nil] at *; omega
theorem sidesV_get : ∀ (l : List (ByteArray × Bool)) (j : Nat) (h : j < l.length), (sidesV l)[2 * j]? = some (.string l[j].1) ∧ (sidesV l)[2 * j + 1]? = some (.bool l[j].2)
  | x :: l, 0, _ => by simp [sidesV, sideV]
  | x :: l, j + 1, h => by
    have := sidesV_get l j (by simpa using h)
    have e : sidesV (x :: l) = .string x.1 :: .bool x.2 :: sidesV l := rfl
    rw [e, show 2 * (j + 1) = 2 * j + 1 + 1 by omega, List.getElem?_cons_succ, List.getElem?_cons_succ, List.getElem?_cons_succ, List.getElem?_cons_succ]
    simpa using this

/-- The law for a loop whose variable is boxed: the box's object is given. -/
theorem rangeH {F : Fence} {n : Nat} {P : Program} {α : Type} {g : Operand} {ps : Array Tmp} {assign body : Code} {Q : Exit → Act → World → Prop} {tm : Array Value} {w : World}
    (hro : F.round = none) (h1 : 1 ≤ n) {gf : Nat} {lb : Array Value} (hg : Act.eval { tmps := tm, defers := [] } g = .func (.func gf) #[] lb) (hFg : F.fn gf) (eg : ∀ args w, (callFunc gf args).run P w = .ok (.enter gf args) w)
    {encs : α → Array Value} {Kp : World → World → Prop} {S Sp : List α → Prop} {N : Nat} {w0 : World} (hseq : SeqStopsK F (n - 1) P gf lb encs Kp S Sp N w0)
    (hKt : ∀ {A B C : World}, Kp A B → Kp B C → Kp A C) (hKb : ∀ (W : World) (l : Nat) (o o' : Obj), w.heap.size ≤ l → W.heap[l]? = some o → o.isCells = false → o.isWalk = false → Kp W (W.putObj l o')) (hb0 : Below w0.heap.size w0 w) (hps : ∀ x, (encs x).size = ps.size)
    (I : List α → World → Prop) (Ix : Code → List α → World → Prop) (hI : OwnFrom w.heap.size I) (hIx : ∀ c, OwnFrom w.heap.size (Ix c)) (h0 : I [] w) (ob : α → Obj) (hob : ∀ x, (ob x).isCells = true) (f : α → Nat → Array Value → Array Value)
    (hassign : ∀ (l : Nat) (pre : List α) (x : α) (W : World) (K : Act → World → Prop), w.heap.size ≤ W.heap.size → I pre W → (∀ (Bx : Nat) W', w.heap.size ≤ Bx → KeepsFrom w.heap.size W W' → Kp W W' → I pre W' → W'.heap[Bx]? = some (ob x) → K { tmps := f x Bx tm, defers := [] } W') →
      assign.wpIn (F.inRound l) (n - 1 - 1) P (Exit.then K (fun _ _ _ => False)) { tmps := (ps.zip (encs x)).foldl (fun t (p, v) => t.setIfInBounds p v) tm, defers := [] } W)
    (hIs : ∀ pre W, I pre W → w.heap.size ≤ W.heap.size)
    (hbody : ∀ (l : Nat) (pre : List α) (x : α) (Bx : Nat) (W : World), w.heap.size ≤ Bx → W.heap[Bx]? = some (ob x) → I pre W → pre.length < N → body.wpIn (F.inRound l) (n - 1 - 1) P (ownPostG w.heap.size Kp I Ix (pre ++ [x]) W) { tmps := f x Bx tm, defers := [] } W)
    (hdone : ∀ (D : Nat) (xs : List α) (W : World), w.heap.size ≤ D → S xs → I xs W → W.heap[D]? = some (.deferred (some [])) → Q .normal { tmps := tm, defers := { target := .collected D, args := #[] } :: [] } W)
    (hstop : ∀ (D : Nat) (c : Code) (pre : List α) (W : World), w.heap.size ≤ D → Sp pre → Ix c pre W → W.heap[D]? = some (.deferred (some [])) → c.wpIn F n P Q { tmps := tm, defers := { target := .collected D, args := #[] } :: [] } W) :
    (Code.rangeFunc g ps assign body).wpIn F n P Q { tmps := tm, defers := [] } w :=
  wpIn_rangeFunc_ownH hro h1 hg hFg eg hseq hKt hKb hb0 hps I Ix hI hIx h0 (fun x a' W => ∃ Bx, w.heap.size ≤ Bx ∧ W.heap[Bx]? = some (ob x) ∧ a' = { tmps := f x Bx tm, defers := [] })
    (fun x a' _ W W' row ⟨Bx, h1, h2, h3⟩ hg hr => ⟨Bx, h1, by
      rw [hg.block Bx (ltOf h2) (fun e => by
        obtain ⟨_, o, ho, hc⟩ := hr Bx e.symm
        rw [h2] at ho; injection ho with ho; subst ho; rw [hob x] at hc; cases hc)]; exact h2, h3⟩)
    (fun l pre x W K hi hK => hassign l pre x W K (hIs pre W hi) hi (fun Bx W' h1 h2 h3 h4 h5 => hK _ W' h2 h3 h4 ⟨Bx, h1, h5, rfl⟩))
    (fun l pre x a' W _ _ hi ⟨Bx, h1, h2, h3⟩ hlt => by subst h3; exact hbody l pre x Bx W h1 h2 hi hlt) hdone hstop

set_option maxRecDepth 100000 in
set_option maxHeartbeats 2000000 in
theorem backS1_in (n : Nat) (hn : 1 ≤ n) (l Bs g off cap : Nat) (L : List (ByteArray × Bool)) (hL : L.length ≤ 100000000) (J Jx : List (Fin L.length) → World → Prop)
    (hY : ∀ pre x W, J pre W → pre.length < L.length → YieldAt Fence.wide (n - 1) Tryd.prog l #[.int .i64 (x.1 : Int), sideA L[x]] W fun e W' =>
      (e = .returned (.bool true) ∧ J (pre ++ [x]) W' ∧ KeepT (fun k => k = Bs ∨ k = g) W W') ∨ (e = .returned (.bool false) ∧ Jx (pre ++ [x]) W'))
    (W : World) (fs : Nat × Nat) (ts : TypeId) (a : Option Addr) (ha : 0 < L.length → a = some ⟨g, off, none⟩) (hBs : W.heap[Bs]? = some (.cells #[.slice a L.length cap] ts fs)) (hc : ∀ j u, (sidesV L)[j]? = some u → W.cell? ⟨g, off + j, none⟩ = some u) (h0 : J [] W) :
    CallsIn Fence.wide n Tryd.prog 88 #[.func (.yield l) #[] #[], .pointer (some ⟨Bs, 0, none⟩)] W fun e W' => (∃ v, e = .returned v) ∧
      ((∃ ys, ys = (List.finRange L.length).reverse ∧ J ys W') ∨ (∃ pre, True ∧ Jx pre W')) := by
  have HBs := Lib.hid hBs
  have HC := Lib.hid hc
  have HA := Lib.hid ha
  clear hBs hc ha
  have c0 : W.cell? ⟨Bs, 0, none⟩ = some (.slice a L.length cap) := by rw [cellOf HBs.out]; rfl
  obtain ⟨m, hm⟩ : ∃ m, L.length = m := ⟨_, rfl⟩
  have HM := Lib.hid hm
  have HTK := Lib.hid (finRev_take L.length)
  refine callsIn_of_wp Tryd.func88 rfl trivial ?_ rfl
  simp only [Tryd.ntmps88, List.size_toArray, List.length_cons, List.length_nil, Nat.reduceAdd, Nat.reduceSub, Array.replicate_succ, Array.replicate_zero, List.push_toArray, List.append_toArray, List.nil_append, List.cons_append]
  rw [hm] at c0 hL
  clear hm
  gi_wp2
  gi_loopw [3] (fun i wr => ∃ j : Nat, j ≤ m ∧ i = .int .i64 ((j : Int) - 1) ∧ J ((List.finRange L.length).reverse.take (m - j)) wr ∧ KeepT (fun k => k = Bs ∨ k = g) W wr)
    (fun i _ => (intOf i + 1).toNat)
  case atStart => exact ⟨m, Nat.le_refl _, rfl, by simpa using h0, KeepT.refl _ _⟩
  case round =>
    clear c0
    obtain ⟨j, hj, rfl, hJs, hkt⟩ := hrel
    have cs : wr.cell? ⟨Bs, 0, none⟩ = some (.slice a m cap) := by rw [cellOf ((hkt.2 Bs (.inl rfl)).trans HBs.out), ← HM.out]; rfl
    have HKT := Lib.hid hkt
    clear hkt
    by_cases hlt : 0 < j
    · obtain ⟨q, rfl⟩ : ∃ q, j = q + 1 := ⟨j - 1, by omega⟩
      have hq : q < L.length := by rw [HM.out]; omega
      obtain rfl := HA.out (by omega)
      have c1 : wr.cell? ⟨g, off + q * 2, none⟩ = some (.string (L[q]'hq).1) := by
        rw [World.cell?_of_block (w := W) (HKT.out.2 g (.inr rfl)), Nat.mul_comm]; exact HC.out _ _ (sidesV_get L q hq).1
      have c2 : wr.cell? ⟨g, off + q * 2 + 1, none⟩ = some (.bool (L[q]'hq).2) := by
        rw [World.cell?_of_block (w := W) (HKT.out.2 g (.inr rfl)), Nat.mul_comm, Nat.add_assoc]; exact HC.out _ _ (sidesV_get L q hq).2
      obtain ⟨fn, tmps, assign, body, hy, hR⟩ := hY _ ⟨q, hq⟩ wr hJs (by rw [List.length_take, List.length_reverse, List.length_finRange, HM.out]; omega)
      have hx : L[(⟨q, hq⟩ : Fin L.length)] = L[q]'hq := rfl
      rw [hx] at hy
      dsimp only at hy
      have HTQ := HTK.out (q + 1) (by omega) (by rw [HM.out]; omega)
      have HTQ' : Hid ((List.finRange L.length).reverse.take (m - q) = (List.finRange L.length).reverse.take (m - (q + 1)) ++ [⟨q, hq⟩]) := Lib.hid (by
        have a1 : L.length - (q + 1 - 1) = m - q := by have := HM.out; omega
        have a2 : L.length - (q + 1) = m - (q + 1) := by have := HM.out; omega
        rw [a1, a2] at HTQ; exact HTQ)
      clear HTQ hx
      unfold sideA at hy
      generalize L[q]'hq = x at *
      obtain ⟨x1, x2⟩ := x
      dsimp only at hy c1 c2
      rw [show (((q + 1 : Nat) : Int) - 1) = (q : Int) by omega]
      have b0 : (q : Int) < (m : Int) := by omega
      gi_wp2
      refine hR.mono ?_
      rintro e W3 (⟨rfl, hJ3, hk3⟩ | ⟨rfl, hJx3⟩)
      · have HK3 := Lib.hid (HKT.out.trans hk3)
        clear hk3
        gi_wp2
        go_roundw
        case rel => exact ⟨q, by omega, rfl, by rw [HTQ'.out]; exact hJ3, HK3.out⟩
        case measure => simp [intOf]
      · gi_wp2
        refine bodyPost_ret (results_none rfl _ _ _) rfl ?_
        exact ⟨⟨_, rfl⟩, .inr ⟨_, trivial, hJx3⟩⟩
    · obtain rfl : j = 0 := by omega
      rw [show (((0 : Nat) : Int) - 1) = -1 from rfl]
      gi_wp2
      go_end0
      exact ⟨⟨_, rfl⟩, .inl ⟨_, rfl, by rwa [List.take_of_length_le (by rw [List.length_reverse, List.length_finRange, HM.out]; omega)] at hJs⟩⟩

theorem backS_stops (n : Nat) (hn : 1 ≤ n) (Bs g off cap : Nat) (L : List (ByteArray × Bool)) (hL : L.length ≤ 100000000) (w : World) (fs : Nat × Nat) (ts : TypeId)
    (a : Option Addr) (ha : 0 < L.length → a = some ⟨g, off, none⟩) (hBs : w.heap[Bs]? = some (.cells #[.slice a L.length cap] ts fs)) (hg : 0 < L.length → g < w.heap.size) (hc : ∀ j u, (sidesV L)[j]? = some u → w.cell? ⟨g, off + j, none⟩ = some u) :
    SeqStopsK Fence.wide n Tryd.prog 88 #[.pointer (some ⟨Bs, 0, none⟩)] (fun x : Fin L.length => #[Value.int .i64 (x.1 : Int), sideA L[x]]) (KeepT (fun k => k = Bs ∨ k = g))
      (fun ys => ys = (List.finRange L.length).reverse) (fun _ => True) L.length w := fun l J Jx W hW hJ _ hY h0 =>
  backS1_in n hn l Bs g off cap L hL J Jx hY W fs ts a ha (by rw [hW.block _ (ltOf hBs)]; exact hBs) (fun j x hj => (hW.cell (p := ⟨g, off + j, none⟩) (hg (by have := (List.getElem?_eq_some_iff.1 hj).1; rw [sidesV_length] at this; omega))).trans (hc j x hj)) h0

set_option maxHeartbeats 1000000 in
theorem BackS_any (v : Value) (hv : v.oneCell' = true) (w : World) :
    Calls Tryd.prog 60 #[v] w fun e w' => e = .returned (.func (.func 88) #[] #[.pointer (some ⟨w.heap.size, 0, none⟩)]) ∧ w.alloc (.cells #[v] 71) = w' := by
  go_enter Tryd.func60, Tryd.ntmps60
  go_wp2
  go_ret
  exact ⟨rfl, rfl⟩
end Go.Proofs.YtljgphmdiflphaaDoor
