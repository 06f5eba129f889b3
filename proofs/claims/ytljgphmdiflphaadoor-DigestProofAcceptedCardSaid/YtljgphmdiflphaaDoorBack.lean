/- slices.Backward over strings. -/
import Derived.Test.YtljgphmdiflphaaDoorStrs
namespace Go.Proofs.YtljgphmdiflphaaDoor
open Go.RowKit Go.Shelf
set_option linter.unusedVariables false

attribute [local go_sem] Oper.semAt_some

theorem finRev_take (n j : Nat) (h0 : 0 < j) (h : j ≤ n) : (List.finRange n).reverse.take (n - (j - 1)) = (List.finRange n).reverse.take (n - j) ++ [⟨j - 1, by omega⟩] := by
  rw [show n - (j - 1) = (n - j) + 1 by omega, List.take_succ_eq_append_getElem (by simp; omega)]
  congr 2
  rw [List.getElem_reverse]
  simp
  omega

set_option maxRecDepth 100000 in
set_option maxHeartbeats 2000000 in
theorem back1_in (n : Nat) (hn : 1 ≤ n) (l Bs g off cap : Nat) (L : List ByteArray) (hL : L.length ≤ 100000000) (J Jx : List (Fin L.length) → World → Prop)
    (hY : ∀ pre x W, J pre W → pre.length < L.length → YieldAt Fence.wide (n - 1) Tryd.prog l #[.int .i64 (x.1 : Int), .string L[x]] W fun e W' =>
      (e = .returned (.bool true) ∧ J (pre ++ [x]) W' ∧ KeepT (fun k => k = Bs ∨ k = g) W W') ∨ (e = .returned (.bool false) ∧ Jx (pre ++ [x]) W'))
    (W : World) (fs : Nat × Nat) (ts : TypeId) (a : Option Addr) (ha : 0 < L.length → a = some ⟨g, off, none⟩) (hBs : W.heap[Bs]? = some (.cells #[.slice a L.length cap] ts fs)) (hc : ∀ j x, L[j]? = some x → W.cell? ⟨g, off + j, none⟩ = some (.string x)) (h0 : J [] W) :
    CallsIn Fence.wide n Tryd.prog 86 #[.func (.yield l) #[] #[], .pointer (some ⟨Bs, 0, none⟩)] W fun e W' => (∃ v, e = .returned v) ∧
      ((∃ ys, ys = (List.finRange L.length).reverse ∧ J ys W') ∨ (∃ pre, True ∧ Jx pre W')) := by
  have HBs := Lib.hid hBs
  have HC := Lib.hid hc
  have HA := Lib.hid ha
  clear hBs hc ha
  have c0 : W.cell? ⟨Bs, 0, none⟩ = some (.slice a L.length cap) := by rw [cellOf HBs.out]; rfl
  obtain ⟨m, hm⟩ : ∃ m, L.length = m := ⟨_, rfl⟩
  have HM := Lib.hid hm
  have HTK := Lib.hid (finRev_take L.length)
  refine callsIn_of_wp Tryd.func86 rfl trivial ?_ rfl
  simp only [Tryd.ntmps86, List.size_toArray, List.length_cons, List.length_nil, Nat.reduceAdd, Nat.reduceSub, Array.replicate_succ, Array.replicate_zero, List.push_toArray, List.append_toArray, List.nil_append, List.cons_append]
  rw [hm] at c0 hL
  clear hm
  gi_wp2
  gi_loopw [3] (fun i wr => ∃ j : Nat, j ≤ m ∧ i = .int .i64 ((j : Int) - 1) ∧ J ((List.finRange L.length).reverse.take (m - j)) wr ∧ KeepT (fun k => k = Bs ∨ k = g) W wr)
    (fun i _ => (intOf i + 1).toNat)
  case atStart => exact ⟨m, Nat.le_refl _, rfl, by simpa using h0, KeepT.refl _ _⟩
  case round =>
    clear c0
    obtain ⟨j, hj, rfl, hJs, hkt⟩ := hrel
    have cs : wr.cell? ⟨Bs, 0, none⟩ = some (.slice a m cap) := by rw [cellOf ((hkt.2 Bs (.inl rfl)).trans HBs.out), ← HM.out]; rfl
    have HKT := Lib.hid hkt
    clear hkt
    by_cases hlt : 0 < j
    · obtain ⟨q, rfl⟩ : ∃ q, j = q + 1 := ⟨j - 1, by omega⟩
      have hq : q < L.length := by rw [HM.out]; omega
      obtain rfl := HA.out (by omega)
      have c1 : wr.cell? ⟨g, off + q, none⟩ = some (.string (L[q]'hq)) := by
        rw [World.cell?_of_block (w := W) (HKT.out.2 g (.inr rfl))]; exact HC.out q _ (List.getElem?_eq_getElem hq)
      obtain ⟨fn, tmps, assign, body, hy, hR⟩ := hY _ ⟨q, hq⟩ wr hJs (by rw [List.length_take, List.length_reverse, List.length_finRange, HM.out]; omega)
      have hx : L[(⟨q, hq⟩ : Fin L.length)] = L[q]'hq := rfl
      rw [hx] at hy
      dsimp only at hy
      have HTQ := HTK.out (q + 1) (by omega) (by rw [HM.out]; omega)
      have HTQ' : Hid ((List.finRange L.length).reverse.take (m - q) = (List.finRange L.length).reverse.take (m - (q + 1)) ++ [⟨q, hq⟩]) := Lib.hid (by
        have a1 : L.length - (q + 1 - 1) = m - q := by have := HM.out; omega
        have a2 : L.length - (q + 1) = m - (q + 1) := by have := HM.out; omega
        rw [a1, a2] at HTQ; exact HTQ)
      clear HTQ hx
      generalize L[q]'hq = x at *
      rw [show (((q + 1 : Nat) : Int) - 1) = (q : Int) by omega]
      have b0 : (q : Int) < (m : Int) := by omega
      gi_wp2
      refine hR.mono ?_
      rintro e W3 (⟨rfl, hJ3, hk3⟩ | ⟨rfl, hJx3⟩)
      · have HK3 := Lib.hid (HKT.out.trans hk3)
        clear hk3
        gi_wp2
        go_roundw
        case rel => exact ⟨q, by omega, rfl, by rw [HTQ'.out]; exact hJ3, HK3.out⟩
        case measure => simp [intOf]
      · gi_wp2
        refine bodyPost_ret (results_none rfl _ _ _) rfl ?_
        exact ⟨⟨_, rfl⟩, .inr ⟨_, trivial, hJx3⟩⟩
    · obtain rfl : j = 0 := by omega
      rw [show (((0 : Nat) : Int) - 1) = -1 from rfl]
      gi_wp2
      go_end0
      exact ⟨⟨_, rfl⟩, .inl ⟨_, rfl, by rwa [List.take_of_length_le (by rw [List.length_reverse, List.length_finRange, HM.out]; omega)] at hJs⟩⟩

theorem back_stops (n : Nat) (hn : 1 ≤ n) (Bs g off cap : Nat) (L : List ByteArray) (hL : L.length ≤ 100000000) (w : World) (fs : Nat × Nat) (ts : TypeId)
    (a : Option Addr) (ha : 0 < L.length → a = some ⟨g, off, none⟩) (hBs : w.heap[Bs]? = some (.cells #[.slice a L.length cap] ts fs)) (hg : 0 < L.length → g < w.heap.size) (hc : ∀ j x, L[j]? = some x → w.cell? ⟨g, off + j, none⟩ = some (.string x)) :
    SeqStopsK Fence.wide n Tryd.prog 86 #[.pointer (some ⟨Bs, 0, none⟩)] (fun x : Fin L.length => #[Value.int .i64 (x.1 : Int), Value.string L[x]]) (KeepT (fun k => k = Bs ∨ k = g))
      (fun ys => ys = (List.finRange L.length).reverse) (fun _ => True) L.length w := fun l J Jx W hW hJ _ hY h0 =>
  back1_in n hn l Bs g off cap L hL J Jx hY W fs ts a ha (by rw [hW.block _ (ltOf hBs)]; exact hBs) (fun j x hj => (hW.cell (p := ⟨g, off + j, none⟩) (hg (by have := (List.getElem?_eq_some_iff.1 hj).1; omega))).trans (hc j x hj)) h0

set_option maxHeartbeats 1000000 in
theorem Back_any (v : Value) (hv : v.oneCell' = true) (w : World) :
    Calls Tryd.prog 57 #[v] w fun e w' => e = .returned (.func (.func 86) #[] #[.pointer (some ⟨w.heap.size, 0, none⟩)]) ∧ w.alloc (.cells #[v] 22) = w' := by
  go_enter Tryd.func57, Tryd.ntmps57
  go_wp2
  go_ret
  exact ⟨rfl, rfl⟩
end Go.Proofs.YtljgphmdiflphaaDoor
