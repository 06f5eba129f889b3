/- SHA-256: a block is added to the words. -/
import Derived.Test.YtljgphmdiflphaaDoorShaB
namespace Go.Proofs.YtljgphmdiflphaaDoor
open Go.RowKit
set_option linter.unusedVariables false

/-- The table of the package: a variable that holds the sixty-four words. -/
def RoundLaid (w : World) : Prop := ∃ x : TypeId × (Nat × Nat), w.heap[0]? = some (.cells (wv Sha.K).toArray x.1 x.2)
theorem RoundLaid.below {w w' : World} (h : RoundLaid w) (hb : Below w.heap.size w w') : RoundLaid w' := by
  obtain ⟨fr, h⟩ := h; exact ⟨fr, by rw [hb.block _ (ltOf h)]; exact h⟩
theorem RoundLaid.upd {w w' : World} {S : Nat → Prop} (h : RoundLaid w) (hb : Upd S w w') (hS : ¬ S 0) : RoundLaid w' := by
  obtain ⟨fr, h⟩ := h; exact ⟨fr, hb.at h hS⟩

theorem run_index_agg {P : Program} {T E : TypeId} {n : Nat} (hT : P.underlying T = some (.array n E)) (k0 : IntKind) (hE : P.underlying E = some (.int k0)) (hs : (P.info? E).map (·.size) = some 1) (cs : Array Value) (k : Nat) (hk : k < n) (v : Value) (hv : cs[k]? = some v) (w : World) :
    (Instr.index T (.agg cs) (.int .i64 (k : Int))).run P w = .ok v w := by
  obtain ⟨i, hi, hi2⟩ := Option.map_eq_some_iff.1 hs
  have h2 : (k : Int) < n := by omega
  simp [Instr.index, asIntOf, run_underlying hT, run_underlying hE, sizeOf, typeInfo, hi, hi2, part, isAgg, hv, hk]

/-- A new variable that is given a row at once. -/
theorem new_row (W : World) (Z cs : Array Value) (T : TypeId) : ((W.alloc (.cells Z T)).setRow W.heap.size cs).heap[W.heap.size]? = some (.cells cs T (0, 0)) ∧ ((W.alloc (.cells Z T)).setRow W.heap.size cs).heap.size = W.heap.size + 1 ∧
    Below W.heap.size W ((W.alloc (.cells Z T)).setRow W.heap.size cs) :=
  ⟨setRow_heap _ _ Z _ T (0, 0) (allocAt _ rfl), by rw [size_setRow]; simp, ((Below.refl _ W).alloc (Nat.le_refl _) _).trans (by have := below_setRow W (W.alloc (.cells Z T)) cs; exact this)⟩

/-- Between two rounds. -/
structure AddS (w : World) (bw bv : Nat) (S V : List Nat) (wr : World) : Prop where
  hw : wr.heap[bw]? = some (.cells (wv S).toArray 124 (0, 0))
  hv : wr.heap[bv]? = some (.cells (wv V).toArray 84 (0, 0))
  below : Below w.heap.size w wr
  lw : w.heap.size ≤ bw
  lv : w.heap.size ≤ bv
  ne : bw ≠ bv
  len : V.length = 8
  lenS : S.length = 64
  small : Sha.small V
  smallS : Sha.small S
theorem AddS.cell {w wr : World} {bw bv : Nat} {S V : List Nat} (h : AddS w bw bv S V wr) (j : Nat) (hj : j < 8) : wr.cell? ⟨bv, j, none⟩ = some (.int .u32 (V.getD j 0 : Nat)) := by
  rw [cellOf h.hv]
  simp only [wv, List.getElem?_toArray, List.getElem?_map, List.getD_eq_getElem?_getD]
  rw [List.getElem?_eq_getElem (by have := h.len; omega)]; rfl
theorem AddS.cellW {w wr : World} {bw bv : Nat} {S V : List Nat} (h : AddS w bw bv S V wr) (j : Nat) (hj : j < 64) : wr.cell? ⟨bw, j, none⟩ = some (.int .u32 (S.getD j 0 : Nat)) := by
  rw [cellOf h.hw]
  simp only [wv, List.getElem?_toArray, List.getElem?_map, List.getD_eq_getElem?_getD]
  rw [List.getElem?_eq_getElem (by have := h.lenS; omega)]; rfl
theorem AddS.alloc {w wr : World} {bw bv : Nat} {S V : List Nat} (h : AddS w bw bv S V wr) (o : Obj) : AddS w bw bv S V (wr.alloc o) :=
  { h with hw := by rw [allocOld (ltOf h.hw)]; exact h.hw, hv := by rw [allocOld (ltOf h.hv)]; exact h.hv, below := h.below.alloc h.below.size _ }
theorem AddS.drewN {w wr : World} {bw bv : Nat} {S V : List Nat} (h : AddS w bw bv S V wr) (n : Nat) : AddS w bw bv S V (wr.drewN n) :=
  { h with below := ⟨h.below.os, h.below.tape, h.below.output, h.below.size, h.below.block⟩ }
theorem AddS.drew {w wr : World} {bw bv : Nat} {S V : List Nat} (h : AddS w bw bv S V wr) : AddS w bw bv S V wr.drew :=
  { h with below := ⟨h.below.os, h.below.tape, h.below.output, h.below.size, h.below.block⟩ }

theorem len8 {V : List Nat} (h : V.length = 8) : ∃ a b c d e f g i, V = [a, b, c, d, e, f, g, i] := by
  match V, h with
  | [a, b, c, d, e, f, g, i], _ => exact ⟨a, b, c, d, e, f, g, i, rfl⟩

theorem Tryd.sz82 : (Tryd.prog.info? 82).map (·.size) = some 1 := by kernel_rfl
theorem Tryd.size8 : (Tryd.prog.info? 84).map (·.size) = some 8 := by kernel_rfl

theorem AddS.moved {w wr W8 : World} {bw bv : Nat} {S : List Nat} {v0 v1 v2 v3 v4 v5 v6 v7 : Nat} (h : AddS w bw bv S [v0, v1, v2, v3, v4, v5, v6, v7] wr) (hlt : bw < bv)
    (h8 : W8.heap[bv]? = some (.cells (splice (wv [v0, v1, v2, v3, v4, v5, v6, v7]) 1 (wv [v0, v1, v2, v3, v4, v5, v6])).toArray 84 (0, 0))) (hB : Below bv wr W8) : AddS w bw bv S [v0, v0, v1, v2, v3, v4, v5, v6] W8 :=
  ⟨by rw [hB.block _ hlt]; exact h.hw, h8, h.below.trans (hB.mono h.lv), h.lw, h.lv, h.ne, rfl, h.lenS, by
    intro x hx
    have hs := h.small
    unfold Sha.small at hs
    simp only [List.mem_cons, List.not_mem_nil, or_false] at hx hs
    exact hs x (by omega), h.smallS⟩
theorem AddS.stored {w wr : World} {bw bv : Nat} {S V' : List Nat} {v0 v1 v2 v3 v4 v5 v6 t u : Nat} (h : AddS w bw bv S [v0, v0, v1, v2, v3, v4, v5, v6] wr) (hV : V' = [(t + u) % 4294967296, v0, v1, v2, (v3 + t) % 4294967296, v4, v5, v6]) :
    AddS w bw bv S V' ((wr.setCell ⟨bv, 0, none⟩ (.int .u32 (((t : Int) + (u : Int)) % 4294967296))).setCell ⟨bv, 4, none⟩ (.int .u32 (((v3 : Int) + (t : Int)) % 4294967296))) := by
  subst hV
  refine { h with hw := ?_, hv := ?_, below := (h.below.setCell h.lv _).setCell h.lv _, len := rfl, small := ?_ }
  · rw [setNe h.ne, setNe h.ne]; exact h.hw
  · rw [setOf_ (setOf_ h.hv 0 _) 4 _]
    simp [wv]
  · intro x hx
    have hs := h.small
    unfold Sha.small at hs
    simp only [List.mem_cons, List.not_mem_nil, or_false] at hx hs
    rcases hx with rfl | rfl | rfl | rfl | rfl | rfl | rfl | rfl
    all_goals first | exact Nat.mod_lt _ (by decide) | exact hs _ (by simp)

/-- The words are added one after the other. -/
structure AddE (w : World) (gh bv : Nat) (H V : List Nat) (k : Nat) (wr : World) : Prop where
  hh : wr.heap[gh]? = some (.cells (wv ((Sha.addV H V).take k ++ H.drop k)).toArray 84 (0, 0))
  hv : wr.heap[bv]? = some (.cells (wv V).toArray 84 (0, 0))
  upd : Upd (· = gh) w wr
  lt : gh < w.heap.size
  lv : w.heap.size ≤ bv
  lenH : H.length = 8
  lenV : V.length = 8
theorem AddE.cellH {w wr : World} {gh bv : Nat} {H V : List Nat} {k : Nat} (h : AddE w gh bv H V k wr) (hk : k < 8) : wr.cell? ⟨gh, k, none⟩ = some (.int .u32 (H.getD k 0 : Nat)) := by
  rw [cellOf h.hh]
  have hl : ((Sha.addV H V).take k).length = k := by simp [Sha.addV, h.lenH, h.lenV]; omega
  simp only [wv, List.getElem?_toArray, List.getElem?_map, List.getD_eq_getElem?_getD]
  rw [List.getElem?_append_right (by omega), hl, Nat.sub_self, List.getElem?_drop, Nat.add_zero, List.getElem?_eq_getElem (by have := h.lenH; omega)]
  rfl
theorem AddE.cellV {w wr : World} {gh bv : Nat} {H V : List Nat} {k : Nat} (h : AddE w gh bv H V k wr) (j : Nat) (hj : j < 8) : wr.cell? ⟨bv, j, none⟩ = some (.int .u32 (V.getD j 0 : Nat)) := by
  rw [cellOf h.hv]
  simp only [wv, List.getElem?_toArray, List.getElem?_map, List.getD_eq_getElem?_getD]
  rw [List.getElem?_eq_getElem (by have := h.lenV; omega)]; rfl
theorem AddE.step {w wr : World} {gh bv : Nat} {H V : List Nat} {k : Nat} (h : AddE w gh bv H V k wr) (hk : k < 8) :
    AddE w gh bv H V (k + 1) (wr.setCell ⟨gh, k, none⟩ (.int .u32 (((H.getD k 0 : Nat) + (V.getD k 0 : Nat) : Int) % 4294967296))).drew := by
  have hlt := h.lt
  have hlv := h.lv
  refine ⟨?_, ?_, (h.upd.setCell _ _ (.inl rfl)).drew, h.lt, h.lv, h.lenH, h.lenV⟩
  · rw [drewHeap, setOf_ h.hh k _]
    congr 2
    have hA : (Sha.addV H V).length = 8 := by simp [Sha.addV, h.lenH, h.lenV]
    have hl : ((Sha.addV H V).take k).length = k := by rw [List.length_take]; omega
    have hx : (Sha.addV H V)[k]'(by omega) = (H.getD k 0 + V.getD k 0) % 4294967296 := by
      simp only [Sha.addV, List.getElem_zipWith, List.getD_eq_getElem?_getD]
      rw [List.getElem?_eq_getElem (by have := h.lenH; omega), List.getElem?_eq_getElem (by have := h.lenV; omega)]; rfl
    rw [List.take_succ_eq_append_getElem (by omega), hx, List.drop_eq_getElem_cons (show k < H.length by have := h.lenH; omega)]
    simp only [wv, List.setIfInBounds_toArray, List.map_append, List.map_cons, List.map_nil]
    rw [List.set_append_right _ _ (by simp [hA]; omega)]
    simp [hA, show min k 8 = k by omega]
  · rw [drewHeap, setNe (by omega)]; exact h.hv
theorem AddE.all {w wr : World} {gh bv : Nat} {H V : List Nat} (h : AddE w gh bv H V 8 wr) : (Sha.addV H V).take 8 ++ H.drop 8 = Sha.addV H V := by
  rw [List.take_of_length_le (by simp [Sha.addV, h.lenH, h.lenV]), List.drop_of_length_le (by have := h.lenH; omega), List.append_nil]

theorem rd_eq (k w v0 v1 v2 v3 v4 v5 v6 v7 : Nat) : Sha.rd k w [v0, v1, v2, v3, v4, v5, v6, v7] = [(Sha.tval v4 v5 v6 v7 k w + Sha.uval v0 v1 v2) % 4294967296, v0, v1, v2, (v3 + Sha.tval v4 v5 v6 v7 k w) % 4294967296, v4, v5, v6] := rfl
theorem t_int (e f g h k x : Nat) (le : e < 4294967296) (lf : f < 4294967296) (lg : g < 4294967296) (lh : h < 4294967296) :
    IntKind.u32.wrap (IntKind.u32.wrap (IntKind.u32.wrap (IntKind.u32.wrap ((h : Int) + ((Sha.mix e [6, 11, 25] : Nat) : Int)) + bits BinOp.xor IntKind.u32 (bits BinOp.and IntKind.u32 (e : Int) (f : Int)) (bits BinOp.and IntKind.u32 (bits BinOp.xor IntKind.u32 IntKind.u32.max (e : Int)) (g : Int))) + (k : Int)) + (x : Int)) =
      ((Sha.tval e f g h k x : Nat) : Int) := by
  have hmax : IntKind.u32.max = ((4294967295 : Nat) : Int) := by decide
  have hnot : 4294967295 ^^^ e = 4294967295 - e := by
    have h1 := BitVec.toNat_not (x := BitVec.ofNat 32 e)
    rw [BitVec.not_def, BitVec.toNat_xor, BitVec.toNat_ofNat, Nat.mod_eq_of_lt (show e < 2 ^ 32 by omega)] at h1
    exact h1
  rw [hmax, u32_xor_nat _ _ (by omega) le, hnot, u32_and_nat _ _ le lf, u32_and_nat _ _ (by omega) lg, u32_xor_nat _ _ (Nat.and_lt_two_pow (n := 32) _ lf) (Nat.and_lt_two_pow (n := 32) _ lg)]
  unfold Sha.tval
  simp only [IntKind.wrap_u32']
  omega
theorem u_int (a b c : Nat) (la : a < 4294967296) (lb : b < 4294967296) (lc : c < 4294967296) :
    IntKind.u32.wrap (((Sha.mix a [2, 13, 22] : Nat) : Int) + bits BinOp.xor IntKind.u32 (bits BinOp.xor IntKind.u32 (bits BinOp.and IntKind.u32 (a : Int) (b : Int)) (bits BinOp.and IntKind.u32 (a : Int) (c : Int))) (bits BinOp.and IntKind.u32 (b : Int) (c : Int))) =
      ((Sha.uval a b c : Nat) : Int) := by
  have hx := Nat.xor_lt_two_pow (n := 32) (Nat.and_lt_two_pow (n := 32) a lb) (Nat.and_lt_two_pow (n := 32) a lc)
  rw [u32_and_nat _ _ la lb, u32_and_nat _ _ la lc, u32_and_nat _ _ lb lc, u32_xor_nat _ _ (Nat.and_lt_two_pow (n := 32) _ lb) (Nat.and_lt_two_pow (n := 32) _ lc), u32_xor_nat _ _ hx (Nat.and_lt_two_pow (n := 32) _ lc)]
  unfold Sha.uval
  simp only [IntKind.wrap_u32']
  omega
theorem seven {W : World} {b v0 v1 v2 v3 v4 v5 v6 : Nat} (d0 : W.cell? ⟨b, 0, none⟩ = some (.int .u32 (v0 : Nat))) (d1 : W.cell? ⟨b, 1, none⟩ = some (.int .u32 (v1 : Nat))) (d2 : W.cell? ⟨b, 2, none⟩ = some (.int .u32 (v2 : Nat))) (d3 : W.cell? ⟨b, 3, none⟩ = some (.int .u32 (v3 : Nat)))
    (d4 : W.cell? ⟨b, 4, none⟩ = some (.int .u32 (v4 : Nat))) (d5 : W.cell? ⟨b, 5, none⟩ = some (.int .u32 (v5 : Nat))) (d6 : W.cell? ⟨b, 6, none⟩ = some (.int .u32 (v6 : Nat))) :
    ∀ j v, (wv [v0, v1, v2, v3, v4, v5, v6])[j]? = some v → W.cell? ((⟨b, 0, none⟩ : Addr).add j) = some v := by
  intro j v hj
  have ha : (⟨b, 0, none⟩ : Addr).add j = ⟨b, j, none⟩ := by unfold Addr.add; split <;> simp_all
  rw [ha]
  match j, hj with
  | 0, hj => injection hj with hj; subst hj; exact d0
  | 1, hj => injection hj with hj; subst hj; exact d1
  | 2, hj => injection hj with hj; subst hj; exact d2
  | 3, hj => injection hj with hj; subst hj; exact d3
  | 4, hj => injection hj with hj; subst hj; exact d4
  | 5, hj => injection hj with hj; subst hj; exact d5
  | 6, hj => injection hj with hj; subst hj; exact d6
  | j + 7, hj => simp [wv] at hj

set_option maxRecDepth 100000 in
set_option maxHeartbeats 4000000 in
theorem add_any (H : List Nat) (hH : H.length = 8) (hHs : Sha.small H) (gh : Nat) (bs : List Nat) (hb : Sha.bytes bs) (hl : bs.length = 64) (g off c : Nat) (w : World) (hg : g < w.heap.size) (hc : BytesAt w g off bs)
    (hh : w.heap[gh]? = some (.cells (wv H).toArray 84 (0, 0))) (hR : RoundLaid w) :
    Calls Tryd.prog 65 #[.pointer (some ⟨gh, 0, none⟩), .slice (some ⟨g, off, none⟩) 64 c] w fun e w' => e = .returned (.tuple #[]) ∧
      w'.heap[gh]? = some (.cells (wv (Sha.blk H bs)).toArray 84 (0, 0)) ∧ Upd (· = gh) w w' := by
  have HLEN := Lib.hid hH
  have HG := Lib.hid (ltOf hh)
  have HHH := Lib.hid hh
  have SC := Lib.hid (schedule_any bs hb hl g off c w hg hc)
  go_enter Tryd.func65, Tryd.ntmps65
  go_wp2_with fail
  refine SC.out.mono ?_
  rintro e W1 ⟨rfl, hB1⟩
  have HB := Lib.hid hB1
  have hgh : W1.heap[gh]? = some (.cells (wv H).toArray 84 (0, 0)) := by rw [hB1.block _ (ltOf hh)]; exact hh
  have hR1 := hR.below hB1
  obtain ⟨fr, hr⟩ := hR1
  have hltg := ltOf hgh
  have hltr := ltOf hr
  have hS : ∃ cs, (wv (Sha.schedN bs 64)).toArray = cs ∧ cs.size = 64 ∧ cs.all (·.oneCell') = true := ⟨_, rfl, by simp [wv, Sha.schedN_length], by simp [wv, Value.oneCell']⟩
  obtain ⟨cs, hcs, hsz, hone⟩ := hS
  rw [hcs]
  have hV : ∃ vs, (wv H).toArray = vs ∧ vs.size = 8 ∧ vs.all (·.oneCell') = true := ⟨_, rfl, by simp [wv, hH], by simp [wv, Value.oneCell']⟩
  obtain ⟨vs, hvs, hsv, honev⟩ := hV
  rw [hvs] at hgh
  have hK : ∃ ks, (wv Sha.K).toArray = ks ∧ ks.size = 64 := ⟨_, rfl, by simp [wv, Sha.K_length]⟩
  obtain ⟨ks, hks, hsk⟩ := hK
  rw [hks] at hr
  have i1 : (Tryd.prog.info? 124).map (·.size) = some cs.size := by rw [hsz]; exact Tryd.size64
  have i2 : (Tryd.prog.info? 84).map (·.size) = some vs.size := by rw [hsv]; exact Tryd.size8
  have i3 : (Tryd.prog.info? 124).map (·.size) = some ks.size := by rw [hsk]; exact Tryd.size64
  have I1 := Lib.hid i1
  have I2 := Lib.hid i2
  have I3 := Lib.hid i3
  have R1 := Lib.hid hr
  have G1 := Lib.hid hgh
  have O1 := Lib.hid hone
  have O2 := Lib.hid honev
  have S1 := Lib.hid hsz
  have S2 := Lib.hid hsv
  have E1 := Lib.hid hcs
  have E2 := Lib.hid hvs
  have E3 := Lib.hid hks
  clear hB1 hc hh hR hr hgh hone honev hsz hsv hcs hvs hks i1 i2 i3 hsk hH
  go_wp2_with (first
    | (refine wpList_store_row rfl 124 (.tmp 4) (.tmp 14) rfl W1.heap.size cs rfl rfl 124 _ (allocAt _ rfl) I1.out (by rw [S1.out]; rfl) O1.out ?_
       have N := new_row W1 (Array.replicate 64 (.int .u32 0)) cs 124
       generalize hW2 : World.setRow _ _ _ = W2
       change World.setRow (W1.alloc (.cells (Array.replicate 64 (.int .u32 0)) 124)) _ _ = W2 at hW2
       rw [hW2] at N
       obtain ⟨n1, n2, n3⟩ := N
       have g2 : W2.heap[gh]? = some (.cells vs 84 (0, 0)) := by rw [n3.block _ hltg]; exact G1.out
       have r2 : W2.heap[0]? = some (.cells ks fr.1 fr.2) := by rw [n3.block _ hltr]; exact R1.out
       have M1 := Lib.hid n1
       have M2 := Lib.hid n2
       have M3 := Lib.hid n3
       have G2 := Lib.hid g2
       have R2 := Lib.hid r2
       have lt2 : gh < W2.heap.size := ltOf g2
       clear hW2 n1 n2 n3 g2 r2)
    | (refine wpList_load_row rfl 84 (.tmp 16) rfl gh rfl 84 vs (0, 0) _ G2.out Tryd.underlying84 rfl I2.out ?_)
    | (refine wpList_store_row rfl 84 (.tmp 5) (.tmp 17) rfl W2.heap.size vs rfl rfl 84 _ (allocAt _ rfl) I2.out (by rw [S2.out]; rfl) O2.out ?_
       have N := new_row W2 (Array.replicate 8 (.int .u32 0)) vs 84
       generalize hW3 : World.setRow _ _ _ = W3
       change World.setRow (W2.alloc (.cells (Array.replicate 8 (.int .u32 0)) 84)) _ _ = W3 at hW3
       rw [hW3] at N
       obtain ⟨n1, n2, n3⟩ := N
       have r3 : W3.heap[0]? = some (.cells ks fr.1 fr.2) := by rw [n3.block _ (ltOf R2.out)]; exact R2.out
       have L1 := Lib.hid n1
       have L2 := Lib.hid n2
       have L3 := Lib.hid n3
       have R3 := Lib.hid r3
       clear hW3 n1 n2 n3 r3)
    | (refine wpList_load_row rfl 124 (.global 0) rfl 0 rfl fr.1 ks fr.2 _ R3.out Tryd.underlying124 rfl I3.out ?_))
  have A0 : AddS w W1.heap.size W2.heap.size (Sha.schedN bs 64) (Sha.rounds (Sha.schedN bs 64) H 0) W3 := by
    have h1 := M1.out
    have h2 := L1.out
    have h3 := M3.out
    have h4 := L3.out
    have h5 := HB.out
    have z1 := h3.size
    have z2 := h5.size
    have z3 := ltOf h1
    exact ⟨by rw [h4.block _ z3, h1, E1.out], by rw [h2, ← E2.out]; rfl, (h5.trans (h3.mono z2)).trans (h4.mono (by omega)), z2, by omega, by omega, HLEN.out, Sha.schedN_length _ _, hHs, Sha.sched_small hb _⟩
  have A00 := Lib.hid A0
  clear A0
  go_loopw [6, 7, 8, 9, 10, 11, 19] (fun _ _ _ _ _ _ i wr => ∃ k : Nat, k ≤ 64 ∧ i = .int .i64 k ∧ AddS w W1.heap.size W2.heap.size (Sha.schedN bs 64) (Sha.rounds (Sha.schedN bs 64) H k) wr) (fun _ _ _ _ _ _ i _ => 64 - (intOf i).toNat)
  case atStart => exact ⟨0, by omega, rfl, A00.out⟩
  case round =>
    obtain ⟨k, hk, rfl, hA⟩ := hrel
    have HA := Lib.hid hA
    clear hA
    by_cases hlt : k < 64
    · have hix : ∀ W, (Instr.index 124 (.agg ks) (.int .i64 (k : Int))).run Tryd.prog W = .ok (.int .u32 (Sha.K.getD k 0 : Nat)) W := fun W =>
        run_index_agg Tryd.underlying124 .u32 Tryd.underlying82 Tryd.sz82 ks k hlt _ (by rw [← E3.out]; simp [wv, List.getD_eq_getElem?_getD, List.getElem?_eq_getElem (show k < Sha.K.length from hlt)]) W
      have cw := HA.out.cellW k hlt
      have lw := Sha.getD_lt HA.out.smallS k
      have N : Hid (Sha.rounds (Sha.schedN bs 64) H (k + 1) = Sha.rd (Sha.K.getD k 0) ((Sha.schedN bs 64).getD k 0) (Sha.rounds (Sha.schedN bs 64) H k)) := Lib.hid rfl
      have lk : Sha.K.getD k 0 < 4294967296 := Sha.getD_lt Sha.K_lt k
      obtain ⟨v0, v1, v2, v3, v4, v5, v6, v7, hV⟩ := len8 HA.out.len
      rw [hV] at HA N
      clear hV
      have c0 : wr.cell? ⟨W2.heap.size, 0, none⟩ = some (.int .u32 (v0 : Nat)) := HA.out.cell 0 (by omega)
      have c1 : wr.cell? ⟨W2.heap.size, 1, none⟩ = some (.int .u32 (v1 : Nat)) := HA.out.cell 1 (by omega)
      have c2 : wr.cell? ⟨W2.heap.size, 2, none⟩ = some (.int .u32 (v2 : Nat)) := HA.out.cell 2 (by omega)
      have c4 : wr.cell? ⟨W2.heap.size, 4, none⟩ = some (.int .u32 (v4 : Nat)) := HA.out.cell 4 (by omega)
      have c5 : wr.cell? ⟨W2.heap.size, 5, none⟩ = some (.int .u32 (v5 : Nat)) := HA.out.cell 5 (by omega)
      have c6 : wr.cell? ⟨W2.heap.size, 6, none⟩ = some (.int .u32 (v6 : Nat)) := HA.out.cell 6 (by omega)
      have c7 : wr.cell? ⟨W2.heap.size, 7, none⟩ = some (.int .u32 (v7 : Nat)) := HA.out.cell 7 (by omega)
      have hsm : ∀ x ∈ [v0, v1, v2, v3, v4, v5, v6, v7], x < 4294967296 := HA.out.small
      have l0 := hsm v0 (by simp)
      have l1 := hsm v1 (by simp)
      have l2 := hsm v2 (by simp)
      have l4 := hsm v4 (by simp)
      have l5 := hsm v5 (by simp)
      have l6 := hsm v6 (by simp)
      have l7 := hsm v7 (by simp)
      have q0 : (k : Int) < 64 := by omega
      clear hsm
      generalize (Sha.schedN bs 64).getD k 0 = x at *
      generalize Sha.K.getD k 0 = kk at *
      go_wp2
      go_quiet (fail)
      have HA2 := Lib.hid (HA.out.drewN nq)
      replace c1 : (wr.drewN nq).cell? ⟨W2.heap.size, 1, none⟩ = some (.int .u32 (v1 : Nat)) := c1
      replace c2 : (wr.drewN nq).cell? ⟨W2.heap.size, 2, none⟩ = some (.int .u32 (v2 : Nat)) := c2
      replace c5 : (wr.drewN nq).cell? ⟨W2.heap.size, 5, none⟩ = some (.int .u32 (v5 : Nat)) := c5
      replace c6 : (wr.drewN nq).cell? ⟨W2.heap.size, 6, none⟩ = some (.int .u32 (v6 : Nat)) := c6
      replace c7 : (wr.drewN nq).cell? ⟨W2.heap.size, 7, none⟩ = some (.int .u32 (v7 : Nat)) := c7
      replace cw : (wr.drewN nq).cell? ⟨W1.heap.size, k, none⟩ = some (.int .u32 (x : Nat)) := cw
      clear HA c0 c4
      generalize wr.drewN nq = W4 at *
      go_wp2
      go_region_held3 (fun w' => w'.cell? ⟨W2.heap.size, 5, none⟩ = some (.int .u32 (v5 : Nat)) ∧ w'.cell? ⟨W2.heap.size, 6, none⟩ = some (.int .u32 (v6 : Nat)) ∧ w'.cell? ⟨W2.heap.size, 7, none⟩ = some (.int .u32 (v7 : Nat)) ∧ w'.cell? ⟨W1.heap.size, k, none⟩ = some (.int .u32 (x : Nat)))
        ((first | go_keep))
        (first
          | (go_at_call 93
             with_reducible refine (mixed3_any v4 6 11 25 _ _ _ l4 (by decide) (by decide) (by decide) ?_ ?_ ?_).mono ?_
             · go_simp
             · go_simp
             · go_simp
             rintro e w2 ⟨rfl, rfl⟩))
      rw [t_int v4 v5 v6 v7 kk x l4 l5 l6 l7]
      have HA3 := Lib.hid ((HA2.out.alloc (.cells #[.int .i64 6, .int .i64 11, .int .i64 25] 3)).drew)
      have lt : Sha.tval v4 v5 v6 v7 kk x < 4294967296 := Sha.tval_lt _ _ _ _ _ _
      rw [rd_eq] at N
      generalize Sha.tval v4 v5 v6 v7 kk x = t at *
      clear HA2 c1 c2 c5 c6 c7 cw
      generalize (W4.alloc _).drew = W5 at *
      have c1 : W5.cell? ⟨W2.heap.size, 1, none⟩ = some (.int .u32 (v1 : Nat)) := HA3.out.cell 1 (by omega)
      have c2 : W5.cell? ⟨W2.heap.size, 2, none⟩ = some (.int .u32 (v2 : Nat)) := HA3.out.cell 2 (by omega)
      go_wp2
      go_region_held3 (fun w' => w'.cell? ⟨W2.heap.size, 1, none⟩ = some (.int .u32 (v1 : Nat)) ∧ w'.cell? ⟨W2.heap.size, 2, none⟩ = some (.int .u32 (v2 : Nat)))
        ((first | go_keep))
        (first
          | (go_at_call 93
             with_reducible refine (mixed3_any v0 2 13 22 _ _ _ l0 (by decide) (by decide) (by decide) ?_ ?_ ?_).mono ?_
             · go_simp
             · go_simp
             · go_simp
             rintro e w2 ⟨rfl, rfl⟩))
      rw [u_int v0 v1 v2 l0 l1 l2]
      have HA4 := Lib.hid ((HA3.out.alloc (.cells #[.int .i64 2, .int .i64 13, .int .i64 22] 3)).drew)
      have lu : Sha.uval v0 v1 v2 < 4294967296 := Sha.uval_lt _ _ _
      generalize Sha.uval v0 v1 v2 = u at *
      clear HA3 c1 c2
      generalize (W5.alloc _).drew = W6 at *
      go_wp2
      go_still_tail 2, (by kernel_rfl)
      change wpList _ _ _ _ _ W6.drew
      have HA5 := Lib.hid HA4.out.drew
      clear HA4
      generalize W6.drew = W7 at *
      have d0 := HA5.out.cell 0 (by omega)
      have d1 := HA5.out.cell 1 (by omega)
      have d2 := HA5.out.cell 2 (by omega)
      have d3 := HA5.out.cell 3 (by omega)
      have d4 := HA5.out.cell 4 (by omega)
      have d5 := HA5.out.cell 5 (by omega)
      have d6 := HA5.out.cell 6 (by omega)
      have D : Hid (∀ j v, (wv [v0, v1, v2, v3, v4, v5, v6])[j]? = some v → W7.cell? ((⟨W2.heap.size, 0, none⟩ : Addr).add j) = some v) := Lib.hid (seven d0 d1 d2 d3 d4 d5 d6)
      clear d0 d1 d2 d3 d4 d5 d6
      refine wpList_copy_splice rfl (.tmp 69) (.tmp 70) 90 90 rfl 82 Tryd.underlying90 Tryd.sz82 (some ⟨W2.heap.size, 1, none⟩) (some ⟨W2.heap.size, 0, none⟩) 7 7 7 8 rfl rfl W2.heap.size 1 _ 84 HA5.out.hv (wv [v0, v1, v2, v3, v4, v5, v6]) rfl (fun _ => ⟨rfl, _, rfl, D.out⟩) (by simp [wv]) (by simp [wv, Value.oneCell']) W2.heap.size W7 (Below.refl _ _) (Nat.le_refl _) ?_
      intro W8 hW8 hB8
      have HA6 : Hid (AddS w W1.heap.size W2.heap.size (Sha.schedN bs 64) [v0, v0, v1, v2, v3, v4, v5, v6] W8) := Lib.hid (HA5.out.moved (by have := M2.out; omega) hW8.out hB8)
      clear HA5 D hW8 hB8
      have c4 : W8.cell? ⟨W2.heap.size, 4, none⟩ = some (.int .u32 (v3 : Nat)) := HA6.out.cell 4 (by omega)
      have c0 : W8.cell? ⟨W2.heap.size, 0, none⟩ = some (.int .u32 (v0 : Nat)) := HA6.out.cell 0 (by omega)
      have f0 : W8.frozen? ⟨W2.heap.size, 0, none⟩ = false := frozenOf HA6.out.hv 0
      have f4 : W8.frozen? ⟨W2.heap.size, 4, none⟩ = false := frozenOf HA6.out.hv 4
      go_wp2
      go_roundw
      case rel => exact ⟨k + 1, by omega, by go_num, HA6.out.stored N.out⟩
      case measure => simp [intOf]; omega
    · obtain rfl : k = 64 := by omega
      rw [show ((64 : Nat) : Int) = 64 from rfl]
      have E0 : AddE w gh W2.heap.size H (Sha.rounds (Sha.schedN bs 64) H 64) 0 wr := ⟨by rw [HA.out.below.block _ HG.out]; exact HHH.out, HA.out.hv, Upd.of_below HA.out.below, HG.out, HA.out.lv, HLEN.out, HA.out.len⟩
      have EE := Lib.hid E0
      have small := HA.out.small
      clear HA E0
      generalize hV : Sha.rounds (Sha.schedN bs 64) H 64 = V at *
      have HV := Lib.hid hV
      clear hV
      go_wp2
      go_loopw [12, 82] (fun _ i wr => ∃ k : Nat, k ≤ 8 ∧ i = .int .i64 k ∧ AddE w gh W2.heap.size H V k wr) (fun _ i _ => 8 - (intOf i).toNat)
      case atStart => exact ⟨0, by omega, rfl, EE.out⟩
      case round =>
        clear EE
        obtain ⟨k, hk, rfl, hA⟩ := hrel
        have HA := Lib.hid hA
        clear hA
        by_cases hlt2 : k < 8
        · have c0 := HA.out.cellH hlt2
          have c1 := HA.out.cellV k hlt2
          have f0 : wr.frozen? ⟨gh, k, none⟩ = false := frozenOf HA.out.hh k
          have l0 := Sha.getD_lt hHs k
          have l1 := Sha.getD_lt small k
          have q0 : (k : Int) < 8 := by omega
          have ST := Lib.hid (HA.out.step hlt2)
          generalize H.getD k 0 = x at *
          generalize V.getD k 0 = y at *
          go_wp2
          go_still_tail 11, (by kernel_rfl)
          change wpList _ _ _ _ _ wr.drew
          go_wp2
          go_roundw
          case rel => exact ⟨k + 1, by omega, by go_num, ST.out⟩
          case measure => simp [intOf]; omega
        · obtain rfl : k = 8 := by omega
          go_wp2
          go_end0
          refine ⟨rfl, ?_, HA.out.upd⟩
          rw [HA.out.hh, HA.out.all, ← HV.out]
          rfl
end Go.Proofs.YtljgphmdiflphaaDoor
