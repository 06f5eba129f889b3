/- SHA-256: the words of a block. -/
import Derived.Test.YtljgphmdiflphaaDoorShaA
import Derived.StillTailTactics
import Derived.IntWalk
import Derived.Deep.RegionHeld3
namespace Go.Proofs.YtljgphmdiflphaaDoor
open Go.RowKit
set_option linter.unusedVariables false

def wv (l : List Nat) : List Value := l.map fun (x : Nat) => Value.int .u32 (x : Int)
theorem wv_length (l : List Nat) : (wv l).length = l.length := by simp [wv]

/-- The bytes that a slice reads: 64 of them from an offset on. -/
def BytesAt (w : World) (g off : Nat) (bs : List Nat) : Prop := ∀ i, i < bs.length → w.cell? ⟨g, off + i, none⟩ = some (.int .u8 (bs.getD i 0 : Nat))

theorem word_int (x0 x1 x2 x3 : Nat) (l0 : x0 < 256) (l1 : x1 < 256) (l2 : x2 < 256) (l3 : x3 < 256) :
    bits BinOp.or IntKind.u32 (bits BinOp.or IntKind.u32 (bits BinOp.or IntKind.u32 (IntKind.u32.wrap (IntKind.u32.wrap ↑x0 * 16777216)) (IntKind.u32.wrap (IntKind.u32.wrap ↑x1 * 65536)))
      (IntKind.u32.wrap (IntKind.u32.wrap ↑x2 * 256))) (IntKind.u32.wrap ↑x3) = ((Sha.wordv x0 x1 x2 x3 : Nat) : Int) := by
  unfold Sha.wordv
  have w0 : ∀ x : Nat, x < 4294967296 → IntKind.u32.wrap (x : Int) = (x : Int) := fun x h => by rw [IntKind.wrap_u32']; omega
  rw [w0 x0 (by omega), w0 x1 (by omega), w0 x2 (by omega), w0 x3 (by omega)]
  rw [show (x0 : Int) * 16777216 = ((x0 * 16777216 : Nat) : Int) by simp, show (x1 : Int) * 65536 = ((x1 * 65536 : Nat) : Int) by simp, show (x2 : Int) * 256 = ((x2 * 256 : Nat) : Int) by simp]
  rw [w0 _ (by omega), w0 _ (by omega), w0 _ (by omega)]
  have h1 : x0 * 16777216 ||| x1 * 65536 < 4294967296 := Nat.or_lt_two_pow (n := 32) (by omega) (by omega)
  have h2 : (x0 * 16777216 ||| x1 * 65536) ||| x2 * 256 < 4294967296 := Nat.or_lt_two_pow (n := 32) h1 (by omega)
  rw [u32_or_nat _ _ (by omega) (by omega), u32_or_nat _ _ h1 (by omega), u32_or_nat _ _ h2 (by omega)]

def Sched (w : World) (bs : List Nat) (k : Nat) (wr : World) : Prop :=
  wr.heap[w.heap.size]? = some (.cells (wv (Sha.schedN bs k ++ List.replicate (64 - k) 0)).toArray 124 (0, 0)) ∧ Below w.heap.size w wr

theorem mixed2_any (x n m g c : Nat) (w : World) (hx : x < 4294967296) (hn : 1 ≤ n ∧ n ≤ 31) (hm : 1 ≤ m ∧ m ≤ 31)
    (c0 : w.cell? ⟨g, 0, none⟩ = some (.int .i64 (n : Nat))) (c1 : w.cell? ⟨g, 1, none⟩ = some (.int .i64 (m : Nat))) :
    Calls Tryd.prog 93 #[.int .u32 (x : Int), .slice (some ⟨g, 0, none⟩) 2 c] w fun e w' => e = .returned (.int .u32 (Sha.mix x [n, m] : Nat)) ∧ w = w' :=
  mixed_any x [n, m] g c w hx (by intro y hy; simp at hy; rcases hy with rfl | rfl; exact hn; exact hm) (by simp) (by
    intro i hi
    match i, hi with
    | 0, _ => exact c0
    | 1, _ => exact c1)
theorem mixed3_any (x n m p g c : Nat) (w : World) (hx : x < 4294967296) (hn : 1 ≤ n ∧ n ≤ 31) (hm : 1 ≤ m ∧ m ≤ 31) (hp : 1 ≤ p ∧ p ≤ 31)
    (c0 : w.cell? ⟨g, 0, none⟩ = some (.int .i64 (n : Nat))) (c1 : w.cell? ⟨g, 1, none⟩ = some (.int .i64 (m : Nat))) (c2 : w.cell? ⟨g, 2, none⟩ = some (.int .i64 (p : Nat))) :
    Calls Tryd.prog 93 #[.int .u32 (x : Int), .slice (some ⟨g, 0, none⟩) 3 c] w fun e w' => e = .returned (.int .u32 (Sha.mix x [n, m, p] : Nat)) ∧ w = w' :=
  mixed_any x [n, m, p] g c w hx (by intro y hy; simp at hy; rcases hy with rfl | rfl | rfl; exact hn; exact hm; exact hp) (by simp) (by
    intro i hi
    match i, hi with
    | 0, _ => exact c0
    | 1, _ => exact c1
    | 2, _ => exact c2)

theorem keep_set {W : World} {b k j : Nat} {u v : Value} {o p : Obj} (h : W.cell? ⟨b, j, none⟩ = some v) (hn : k ≠ j) (hb : b < W.heap.size) : (((W.setCell ⟨b, k, none⟩ u).alloc o).alloc p).drew.cell? ⟨b, j, none⟩ = some v := by
  have hne : (⟨b, k, none⟩ : Addr) ≠ ⟨b, j, none⟩ := by intro e; injection e with _ e _; exact hn e
  rw [World.cell?_drew, World.cell?_alloc_past _ _ _ (by simp; omega), World.cell?_alloc_past _ _ _ (by simpa using hb), World.cell?_setCell_other _ _ _ _ hne]
  exact h
/-- the sum at the end of a round, as the walk spells it -/
theorem next_int (x2 x7 x15 x16 : Nat) (l2 : x2 < 4294967296) (l15 : x15 < 4294967296) :
    IntKind.u32.wrap (IntKind.u32.wrap (IntKind.u32.wrap ((x16 : Int) + bits BinOp.xor IntKind.u32 ((Sha.mix x15 [7, 18] : Nat) : Int) ((x15 : Int) / 8)) + (x7 : Int)) + bits BinOp.xor IntKind.u32 ((Sha.mix x2 [17, 19] : Nat) : Int) ((x2 : Int) / 1024)) =
      ((Sha.nextv x16 x15 x7 x2 : Nat) : Int) := by
  unfold Sha.nextv
  rw [show (x15 : Int) / 8 = ((x15 / 8 : Nat) : Int) by simp, show (x2 : Int) / 1024 = ((x2 / 1024 : Nat) : Int) by simp]
  rw [u32_xor_nat _ _ (Sha.mix_lt _ l15 _) (by omega), u32_xor_nat _ _ (Sha.mix_lt _ l2 _) (by omega)]
  simp only [IntKind.wrap_u32']
  simp

theorem sched_zero (w : World) (bs : List Nat) : Sched w bs 0 (w.alloc (.cells (wv (Sha.schedN bs 0 ++ List.replicate 64 0)).toArray 124)) :=
  ⟨allocAt _ rfl, (Below.refl _ w).alloc (Nat.le_refl _) _⟩
theorem sched_cell {w wr : World} {bs : List Nat} {k : Nat} (h : Sched w bs k wr) (j : Nat) (hj : j < 64) (hk : k ≤ 64) : wr.cell? ⟨w.heap.size, j, none⟩ = some (.int .u32 ((Sha.schedN bs k).getD j 0 : Nat)) := by
  rw [cellOf h.1]
  have hl := Sha.schedN_length bs k
  simp only [wv, List.getElem?_toArray, List.getElem?_map, List.getD_eq_getElem?_getD]
  by_cases hjk : j < k
  · rw [List.getElem?_append_left (by omega), List.getElem?_eq_getElem (by omega)]; rfl
  · rw [List.getElem?_append_right (by omega), List.getElem?_replicate, if_pos (by omega), List.getElem?_eq_none (by omega)]; rfl
theorem sched_set {w wr : World} {bs : List Nat} {k : Nat} (h : Sched w bs k wr) (hk : k < 64) (x : Nat) (hx : Sha.schedN bs (k + 1) = Sha.schedN bs k ++ [x]) (W : World) (hW : Below wr.heap.size wr W) :
    Sched w bs (k + 1) (W.setCell ⟨w.heap.size, k, none⟩ (.int .u32 (x : Int))) := by
  have hlt := ltOf h.1
  refine ⟨?_, (h.2.trans (hW.mono (Nat.le_of_lt hlt))).setCell (Nat.le_refl _) _⟩
  have hh : W.heap[w.heap.size]? = some (.cells (wv (Sha.schedN bs k ++ List.replicate (64 - k) 0)).toArray 124 (0, 0)) := by rw [hW.block _ hlt]; exact h.1
  rw [setOf_ hh k _]
  congr 2
  have hl := Sha.schedN_length bs k
  rw [hx, show 64 - k = (64 - (k + 1)) + 1 by omega, List.replicate_succ]
  simp only [wv, List.setIfInBounds_toArray, List.map_append, List.map_cons, List.map_nil]
  rw [List.set_append_right _ _ (by simp [hl])]
  simp [hl]

theorem Sched.two {w wr : World} {bs : List Nat} {k : Nat} (h : Sched w bs k wr) (o p : Obj) : Sched w bs k ((wr.alloc o).alloc p).drew := by
  have hlt := ltOf h.1
  exact ⟨by rw [drewHeap, allocOld (by simp; omega), allocOld hlt]; exact h.1, ((h.2.alloc (Nat.le_of_lt hlt) _).alloc (by simp; omega) _).drew⟩
theorem below_setRow (w W : World) (cs : Array Value) : Below w.heap.size W (W.setRow w.heap.size cs) :=
  ⟨rfl, rfl, rfl, by rw [size_setRow]; exact Nat.le_refl _, fun k hk => setRow_other W w.heap.size k cs (by omega)⟩
theorem Tryd.size64 : (Tryd.prog.info? 124).map (·.size) = some 64 := by kernel_rfl

set_option maxRecDepth 100000 in
set_option maxHeartbeats 16000000 in
theorem schedule_any (bs : List Nat) (hb : Sha.bytes bs) (hl : bs.length = 64) (g off c : Nat) (w : World) (hg : g < w.heap.size) (hc : BytesAt w g off bs) :
    Calls Tryd.prog 92 #[.slice (some ⟨g, off, none⟩) 64 c] w fun e w' => e = .returned (.agg (wv (Sha.schedN bs 64)).toArray) ∧ Below w.heap.size w w' := by
  have HL := Lib.hid hl
  have HC : Hid (∀ (wr : World), Below w.heap.size w wr → ∀ i, i < 64 → wr.cell? ⟨g, off + i, none⟩ = some (.int .u8 (bs.getD i 0 : Nat))) :=
    Lib.hid fun wr hB i hi => (hB.cell (p := ⟨g, off + i, none⟩) hg).trans (hc i (by omega))
  have Z := Lib.hid (sched_zero w bs)
  clear hl hc
  go_enter Tryd.func92, Tryd.ntmps92
  go_wp2
  go_loopw [3, 7] (fun _ i wr => ∃ k : Nat, k ≤ 16 ∧ i = .int .i64 k ∧ Sched w bs k wr) (fun _ i _ => 16 - (intOf i).toNat)
  case atStart => exact ⟨0, by omega, rfl, Z.out⟩
  case round =>
    obtain ⟨k, hk, rfl, hS⟩ := hrel
    have HS := Lib.hid hS
    clear hS
    by_cases hlt : k < 16
    · have hd := (Sha.getD_byte hb)
      have c0 := HC.out wr HS.out.2 (4 * k) (by omega)
      have c1 := HC.out wr HS.out.2 (4 * k + 1) (by omega)
      have c2 := HC.out wr HS.out.2 (4 * k + 2) (by omega)
      have c3 := HC.out wr HS.out.2 (4 * k + 3) (by omega)
      have f0 : wr.frozen? ⟨w.heap.size, k, none⟩ = false := frozenOf HS.out.1 k
      have d0 : wr.cell? ⟨w.heap.size, k, none⟩ = some (.int .u32 ((Sha.schedN bs k).getD k 0 : Nat)) := sched_cell HS.out k (by omega) (by omega)
      have l0 := hd (4 * k)
      have l1 := hd (4 * k + 1)
      have l2 := hd (4 * k + 2)
      have l3 := hd (4 * k + 3)
      have N := Lib.hid (Sha.schedN_lo bs k hlt)
      unfold Sha.word at N
      generalize (Sha.schedN bs k).getD k 0 = d at *
      generalize bs.getD (4 * k) 0 = x0 at *
      generalize bs.getD (4 * k + 1) 0 = x1 at *
      generalize bs.getD (4 * k + 2) 0 = x2 at *
      generalize bs.getD (4 * k + 3) 0 = x3 at *
      clear hd
      have m0 : IntKind.i64.wrap (4 * (k : Int)) = 4 * (k : Int) := IntWalk.i64_in _ (by omega)
      have m1 : IntKind.i64.wrap (4 * (k : Int) + 1) = 4 * (k : Int) + 1 := IntWalk.i64_in _ (by omega)
      have m2 : IntKind.i64.wrap (4 * (k : Int) + 2) = 4 * (k : Int) + 2 := IntWalk.i64_in _ (by omega)
      have m3 : IntKind.i64.wrap (4 * (k : Int) + 3) = 4 * (k : Int) + 3 := IntWalk.i64_in _ (by omega)
      have t0 : (4 * (k : Int)).toNat = 4 * k := by omega
      have t1 : (4 * (k : Int) + 1).toNat = 4 * k + 1 := by omega
      have t2 : (4 * (k : Int) + 2).toNat = 4 * k + 2 := by omega
      have t3 : (4 * (k : Int) + 3).toNat = 4 * k + 3 := by omega
      have p0 : 0 ≤ 4 * (k : Int) := by omega
      have p1 : 0 ≤ 4 * (k : Int) + 1 := by omega
      have p2 : 0 ≤ 4 * (k : Int) + 2 := by omega
      have p3 : 0 ≤ 4 * (k : Int) + 3 := by omega
      have q0 : 4 * (k : Int) < 64 := by omega
      have q1 : 4 * (k : Int) + 1 < 64 := by omega
      have q2 : 4 * (k : Int) + 2 < 64 := by omega
      have q3 : 4 * (k : Int) + 3 < 64 := by omega
      have q4 : (k : Int) < 64 := by omega
      go_wp2
      go_still_tail 35, (by kernel_rfl)
      clear m0 m1 m2 m3 t0 t1 t2 t3
      rw [word_int x0 x1 x2 x3 l0 l1 l2 l3]
      change wpList _ _ _ _ _ wr.drew
      go_wp2
      go_roundw
      case rel => exact ⟨k + 1, by omega, by go_num, sched_set HS.out (by omega) _ N.out _ (Below.refl _ _).drew⟩
      case measure => simp [intOf]; omega
    · obtain rfl : k = 16 := by omega
      rw [show ((16 : Nat) : Int) = 16 from rfl]
      go_wp2
      go_loopw [4, 5, 6] (fun i _ _ wr => ∃ k : Nat, 16 ≤ k ∧ k ≤ 64 ∧ i = .int .i64 k ∧ Sched w bs k wr) (fun i _ _ _ => 64 - (intOf i).toNat)
      case atStart => exact ⟨16, by omega, by omega, rfl, HS.out⟩
      case round =>
        clear HS
        obtain ⟨k, hk0, hk, rfl, hS⟩ := hrel
        have HS := Lib.hid hS
        clear hS
        by_cases hlt2 : k < 64
        · have c2 := sched_cell HS.out (k - 2) (by omega) (by omega)
          have c7 := sched_cell HS.out (k - 7) (by omega) (by omega)
          have c15 := sched_cell HS.out (k - 15) (by omega) (by omega)
          have c16 := sched_cell HS.out (k - 16) (by omega) (by omega)
          have f0 : wr.frozen? ⟨w.heap.size, k, none⟩ = false := frozenOf HS.out.1 k
          have d0 := sched_cell HS.out k (by omega) (by omega)
          have hsm := Sha.getD_lt (Sha.sched_small hb k)
          have l2 := hsm (k - 2)
          have l15 := hsm (k - 15)
          have N := Lib.hid (Sha.schedN_hi bs k hk0)
          unfold Sha.next at N
          generalize (Sha.schedN bs k).getD k 0 = d at *
          generalize (Sha.schedN bs k).getD (k - 2) 0 = x2 at *
          generalize (Sha.schedN bs k).getD (k - 7) 0 = x7 at *
          generalize (Sha.schedN bs k).getD (k - 15) 0 = x15 at *
          generalize (Sha.schedN bs k).getD (k - 16) 0 = x16 at *
          clear hsm
          have N16 := Lib.hid (show k ≠ k - 16 by omega)
          have N7 := Lib.hid (show k ≠ k - 7 by omega)
          have m2 : IntKind.i64.wrap ((k : Int) - 2) = (k : Int) - 2 := IntWalk.i64_in _ (by omega)
          have m7 : IntKind.i64.wrap ((k : Int) - 7) = (k : Int) - 7 := IntWalk.i64_in _ (by omega)
          have m15 : IntKind.i64.wrap ((k : Int) - 15) = (k : Int) - 15 := IntWalk.i64_in _ (by omega)
          have m16 : IntKind.i64.wrap ((k : Int) - 16) = (k : Int) - 16 := IntWalk.i64_in _ (by omega)
          have t2 : ((k : Int) - 2).toNat = k - 2 := by omega
          have t7 : ((k : Int) - 7).toNat = k - 7 := by omega
          have t15 : ((k : Int) - 15).toNat = k - 15 := by omega
          have t16 : ((k : Int) - 16).toNat = k - 16 := by omega
          have p2 : 0 ≤ (k : Int) - 2 := by omega
          have p7 : 0 ≤ (k : Int) - 7 := by omega
          have p15 : 0 ≤ (k : Int) - 15 := by omega
          have p16 : 0 ≤ (k : Int) - 16 := by omega
          have q2 : (k : Int) - 2 < 64 := by omega
          have q7 : (k : Int) - 7 < 64 := by omega
          have q15 : (k : Int) - 15 < 64 := by omega
          have q16 : (k : Int) - 16 < 64 := by omega
          have q4 : (k : Int) < 64 := by omega
          have r2 : 2 ≤ (k : Int) := by omega
          have r7 : 7 ≤ (k : Int) := by omega
          have r15 : 15 ≤ (k : Int) := by omega
          have r16 : 16 ≤ (k : Int) := by omega
          go_wp2
          go_quiet (fail)
          have c7' : (wr.drewN nq).cell? ⟨w.heap.size, k - 7, none⟩ = some (.int .u32 (x7 : Nat)) := c7
          have c16' : (wr.drewN nq).cell? ⟨w.heap.size, k - 16, none⟩ = some (.int .u32 (x16 : Nat)) := c16
          have f0' : (wr.drewN nq).frozen? ⟨w.heap.size, k, none⟩ = false := f0
          have d0' : (wr.drewN nq).cell? ⟨w.heap.size, k, none⟩ = some (.int .u32 (d : Nat)) := d0
          have HS' : Hid (Sched w bs k (wr.drewN nq)) := Lib.hid ⟨HS.out.1, HS.out.2.os, HS.out.2.tape, HS.out.2.output, HS.out.2.size, HS.out.2.block⟩
          have z0 : w.heap.size < (wr.drewN nq).heap.size := ltOf HS.out.1
          clear c2 c7 c15 c16 f0 d0 HS
          generalize wr.drewN nq = W at *
          go_wp2
          go_region_held3 (fun w' => w'.cell? ⟨w.heap.size, k - 16, none⟩ = some (.int .u32 (x16 : Nat)) ∧ w'.cell? ⟨w.heap.size, k - 7, none⟩ = some (.int .u32 (x7 : Nat)))
            ((first | (with_reducible exact ⟨keep_set c16' N16.out z0, keep_set c7' N7.out z0⟩) | go_keep))
            (first
              | (go_at_call 93
                 with_reducible refine (mixed2_any x15 7 18 _ _ _ l15 (by decide) (by decide) ?_ ?_).mono ?_
                 · go_simp
                 · go_simp
                 rintro e w2 ⟨rfl, rfl⟩)
              | (go_at_call 93
                 with_reducible refine (mixed2_any x2 17 19 _ _ _ l2 (by decide) (by decide) ?_ ?_).mono ?_
                 · go_simp
                 · go_simp
                 rintro e w2 ⟨rfl, rfl⟩))
          all_goals clear m2 m7 m15 m16 t2 t7 t15 t16
          all_goals rw [next_int x2 x7 x15 x16 l2 l15]
          all_goals
            go_wp2
            go_roundw
            case rel => exact ⟨k + 1, by omega, by omega, by go_num, (sched_set HS'.out hlt2 _ N.out _ (Below.refl _ _)).two _ _⟩
            case measure => simp [intOf]; omega
        · obtain rfl : k = 64 := by omega
          have hR := HS.out.1
          rw [show 64 - 64 = 0 from rfl, List.replicate_zero, List.append_nil] at hR
          have hsz : (wv (Sha.schedN bs 64)).toArray.size = 64 := by simp [wv, Sha.schedN_length]
          have h1 : (wv (Sha.schedN bs 64)).toArray.all (·.oneCell') = true := by simp [wv, Value.oneCell']
          have hi := Tryd.size64
          rw [← hsz] at hi
          have HB := Lib.hid HS.out.2
          clear HS
          obtain ⟨cs, hcs⟩ : ∃ cs, (wv (Sha.schedN bs 64)).toArray = cs := ⟨_, rfl⟩
          rw [hcs] at hR hi h1
          have HCS := Lib.hid hcs
          have R := Lib.hid hR
          have HI := Lib.hid hi
          have H1 := Lib.hid h1
          clear hR hi h1 hsz hcs
          go_wp2_with (first | (refine wpList_load_row rfl 124 (.tmp 2) rfl w.heap.size rfl 124 cs (0, 0) _ R.out Tryd.underlying124 rfl HI.out ?_) | (refine wpList_store_row rfl 124 (.tmp 2) (.tmp 83) rfl w.heap.size cs rfl rfl 124 cs R.out HI.out rfl H1.out ?_))
          refine bodyPost_ret (v := .agg cs) (results_cell_row rfl _ _ w.heap.size 124 cs (0, 0) _ rfl (setRow_heap _ _ _ _ _ _ R.out) Tryd.underlying124 rfl HI.out) rfl ?_
          exact ⟨by rw [HCS.out], HB.out.trans (below_setRow _ _ _)⟩
end Go.Proofs.YtljgphmdiflphaaDoor
