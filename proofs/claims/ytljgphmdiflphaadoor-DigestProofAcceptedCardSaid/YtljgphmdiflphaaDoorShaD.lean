/- SHA-256: the words as bytes. -/
import Derived.Test.YtljgphmdiflphaaDoorShaC
namespace Go.Proofs.YtljgphmdiflphaaDoor
open Go.RowKit
set_option linter.unusedVariables false

/-- numbers as bytes in memory -/
def nv (l : List Nat) : List Value := l.map fun (x : Nat) => Value.int .u8 (x : Int)
theorem nv_length (l : List Nat) : (nv l).length = l.length := by simp [nv]
theorem be4_get (x : Nat) (k : Nat) (hk : k < 4) : (Sha.be4 x)[k]? = some (x / 2 ^ (24 - 8 * k) % 256) := by
  match k, hk with
  | 0, _ => rfl
  | 1, _ => rfl
  | 2, _ => rfl
  | 3, _ => simp [Sha.be4]
theorem flat_get : ∀ (H : List Nat) (i k : Nat) (hi : i < H.length) (hk : k < 4), (H.flatMap Sha.be4)[4 * i + k]? = some (H[i] / 2 ^ (24 - 8 * k) % 256)
  | [], _, _, hi, _ => by simp at hi
  | x :: H, 0, k, _, hk => by
    rw [List.flatMap_cons, List.getElem?_append_left (by simp [Sha.be4]; omega)]
    simpa using be4_get x k hk
  | x :: H, i + 1, k, hi, hk => by
    rw [List.flatMap_cons, List.getElem?_append_right (by simp [Sha.be4]; omega)]
    have := flat_get H i k (by simpa using hi) hk
    rw [show 4 * (i + 1) + k - (Sha.be4 x).length = 4 * i + k by simp [Sha.be4]; omega]
    simpa using this
/-- p bytes of the digest stand. -/
structure OutS (w : World) (bo : Nat) (F : List Nat) (p : Nat) (wr : World) : Prop where
  ho : wr.heap[bo]? = some (.cells (nv (F.take p ++ List.replicate (32 - p) 0)).toArray 127 (0, 0))
  below : Below w.heap.size w wr
  lo : w.heap.size ≤ bo
  len : F.length = 32
theorem OutS.cell {w wr : World} {bo p : Nat} {F : List Nat} (h : OutS w bo F p wr) (j : Nat) (hj : j < 32) (hp : p ≤ 32) : ∃ x : Nat, wr.cell? ⟨bo, j, none⟩ = some (.int .u8 (x : Int)) := by
  rw [cellOf h.ho]
  have hl : (F.take p ++ List.replicate (32 - p) 0).length = 32 := by simp [h.len]; omega
  refine ⟨(F.take p ++ List.replicate (32 - p) 0)[j]'(by omega), ?_⟩
  simp only [nv, List.getElem?_toArray, List.getElem?_map]
  rw [List.getElem?_eq_getElem (by omega)]; rfl
theorem OutS.step {w wr : World} {bo p : Nat} {F : List Nat} (h : OutS w bo F p wr) (hp : p < 32) (x : Nat) (hx : F[p]? = some x) (z : Int) (hz : z = (x : Int)) : OutS w bo F (p + 1) (wr.setCell ⟨bo, p, none⟩ (.int .u8 z)) := by
  subst hz
  refine ⟨?_, h.below.setCell h.lo _, h.lo, h.len⟩
  rw [setOf_ h.ho p _]
  congr 2
  have hF := h.len
  have hx' : F[p]'(by omega) = x := by rw [List.getElem?_eq_getElem (by omega)] at hx; injection hx
  rw [List.take_succ_eq_append_getElem (by omega), hx', show 32 - p = (32 - (p + 1)) + 1 by omega, List.replicate_succ]
  simp only [nv, List.setIfInBounds_toArray, List.map_append, List.map_cons, List.map_nil]
  rw [List.set_append_right _ _ (by simp; omega)]
  simp [hF, show min p 32 = p by omega]

theorem flat_bytes (H : List Nat) : Sha.bytes (H.flatMap Sha.be4) := by
  intro x hx
  obtain ⟨y, _, hx⟩ := List.mem_flatMap.1 hx
  simp only [Sha.be4, List.mem_cons, List.not_mem_nil, or_false] at hx
  omega
theorem nv_bytesV {F : List Nat} (h : Sha.bytes F) : nv F = bytesV (F.map UInt8.ofNat) := by
  simp only [nv, bytesV, List.map_map]
  refine List.map_congr_left fun x hx => ?_
  have := h x hx
  simp only [Function.comp_apply, UInt8.toNat_ofNat', Value.int.injEq, true_and]
  rw [Nat.mod_eq_of_lt (by omega)]
theorem OutS.conv {w wr : World} {bo : Nat} {F : List Nat} (h : OutS w bo F (4 * 8) wr) (hF : Sha.bytes F) :
    (convert 45 9 (.slice (some ⟨bo, 0, none⟩) 32 32)).run Tryd.prog wr = .ok (.string ⟨(F.map UInt8.ofNat).toArray⟩) wr := by
  have hh := h.ho
  rw [List.take_of_length_le (by rw [h.len]; omega), show 32 - 4 * 8 = 0 from rfl, List.replicate_zero, List.append_nil, nv_bytesV hF] at hh
  rw [run_conv_row 45 9 5 Tryd.underlying45 Tryd.underlying5 Tryd.underlying9 bo 0 32 32 _ _ hh (by simp [h.len])]
  rw [List.drop_zero, List.take_of_length_le (by simp [h.len])]

theorem Tryd.szByte : (Tryd.prog.info? 5).map (·.size) = some 1 := by kernel_rfl

set_option maxRecDepth 100000 in
set_option maxHeartbeats 4000000 in
theorem dig_any (H : List Nat) (hH : H.length = 8) (hHs : Sha.small H) (w : World) :
    Calls Tryd.prog 66 #[.agg (wv H).toArray] w fun e w' => e = .returned (.string ⟨((H.flatMap Sha.be4).map UInt8.ofNat).toArray⟩) ∧ Below w.heap.size w w' := by
  have hV : ∃ vs, (wv H).toArray = vs ∧ vs.size = 8 := ⟨_, rfl, by simp [wv, hH]⟩
  obtain ⟨vs, hvs, hsv⟩ := hV
  rw [hvs]
  have i2 : (Tryd.prog.info? 84).map (·.size) = some vs.size := by rw [hsv]; exact Tryd.size8
  have I2 := Lib.hid i2
  have E2 := Lib.hid hvs
  clear i2 hvs
  go_enter Tryd.func66, Tryd.ntmps66
  go_wp2_with (first
    | (refine wpList_load_row rfl 84 (.tmp 1) rfl w.heap.size rfl 84 vs (0, 0) _ (by rw [allocOld (by simp)]; exact allocAt _ rfl) Tryd.underlying84 rfl I2.out ?_))
  have Z : Hid (OutS w (w.heap.size + 1) (H.flatMap Sha.be4) 0 ((w.alloc (.cells vs 84)).alloc (.cells (nv (List.replicate 32 0)).toArray 127))) :=
    Lib.hid ⟨allocAt _ (by simp), ((Below.refl _ w).alloc (Nat.le_refl _) _).alloc (by simp) _, by omega, by rw [Sha.flat_length, hH]⟩
  have HF := Lib.hid (flat_get H)
  go_loopw [4, 5, 6, 8, 12] (fun _ _ _ i _ wr => ∃ k : Nat, k ≤ 8 ∧ i = .int .i64 k ∧ OutS w (w.heap.size + 1) (H.flatMap Sha.be4) (4 * k) wr) (fun _ _ _ i _ _ => 8 - (intOf i).toNat)
  case atStart => exact ⟨0, by omega, rfl, Z.out⟩
  case round =>
    clear Z
    obtain ⟨i, hi, rfl, hO⟩ := hrel
    have HO := Lib.hid hO
    clear hO
    by_cases hlt : i < 8
    · have hix : ∀ W, (Instr.index 84 (.agg vs) (.int .i64 (i : Int))).run Tryd.prog W = .ok (.int .u32 (H[i]'(by omega) : Nat)) W := fun W =>
        run_index_agg Tryd.underlying84 .u32 Tryd.underlying82 Tryd.sz82 vs i hlt _ (by rw [← E2.out]; simp [wv, List.getElem?_eq_getElem (show i < H.length by omega)]) W
      have hx : H[i]'(by omega) < 4294967296 := hHs _ (List.getElem_mem _)
      have FF : Hid (∀ k, k < 4 → (H.flatMap Sha.be4)[4 * i + k]? = some (H[i]'(by omega) / 2 ^ (24 - 8 * k) % 256)) := Lib.hid fun k hk => HF.out i k (by omega) hk
      generalize H[i]'(by omega) = x at *
      go_wp2
      obtain ⟨wo, rfl⟩ : ∃ wo : World, wo = wr := ⟨_, rfl⟩
      go_loopw [6, 12] (fun _ k wr => ∃ j : Nat, j ≤ 4 ∧ k = .int .i64 j ∧ OutS w (w.heap.size + 1) (H.flatMap Sha.be4) (4 * i + j) wr) (fun _ k _ => 4 - (intOf k).toNat)
      case atStart => exact ⟨0, by omega, rfl, HO.out⟩
      case round =>
        clear HO
        obtain ⟨j, hj, rfl, hO⟩ := hrel
        have HO := Lib.hid hO
        clear hO
        by_cases hlt2 : j < 4
        · obtain ⟨y, cy⟩ := HO.out.cell (4 * i + j) (by omega) (by omega)
          have f0 : wr.frozen? ⟨w.heap.size + 1, 4 * i + j, none⟩ = false := frozenOf HO.out.ho _
          have q0 : 4 * (i : Int) + (j : Int) < 32 := by omega
          have q1 : 0 ≤ 4 * (i : Int) + (j : Int) := by omega
          have q2 : 0 ≤ 24 - 8 * (j : Int) := by omega
          have q3 : (4 * (i : Int) + (j : Int)).toNat = 4 * i + j := by omega
          have q4 : (24 - 8 * (j : Int)).toNat = 24 - 8 * j := by omega
          have q5 : 8 * (j : Int) ≤ 24 := by omega
          go_wp2
          go_roundw
          case rel => exact ⟨j + 1, by omega, by go_num, HO.out.step (by omega) _ (FF.out j hlt2) _ (by simp)⟩
          case measure => simp [intOf]; omega
        · obtain rfl : j = 4 := by omega
          go_wp2
          go_roundw
          case rel => exact ⟨i + 1, by omega, by go_num, HO.out⟩
          case measure => simp [intOf]; omega
    · obtain rfl : i = 8 := by omega
      have hconv := HO.out.conv (flat_bytes H)
      have HB := Lib.hid HO.out.below
      clear HO
      go_wp2
      go_ret
      exact ⟨rfl, HB.out⟩
end Go.Proofs.YtljgphmdiflphaaDoor
