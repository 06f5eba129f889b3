/- slices.Chunk over bytes, at parts of sixty-four. -/
import Derived.RangeFuncBox
import Derived.RangeFuncLeaves
import Derived.Shelf.Abstract
import Derived.OwnWalkIn
import Derived.TacticsInMore
import Derived.LoopNIn
import Derived.LoopIn
import Derived.Sort.QuietIn
import Derived.Test.YtljgphmdiflphaaDoorBytes
namespace Go.Proofs.YtljgphmdiflphaaDoor
open Go.RowKit Go.Shelf
set_option linter.unusedVariables false

attribute [local go_sem] Oper.semAt_some

/-- What a round keeps: the blocks of T. -/
def KeepT (T : Nat → Prop) (W W' : World) : Prop := W.heap.size ≤ W'.heap.size ∧ ∀ k, T k → W'.heap[k]? = W.heap[k]?
theorem KeepT.trans {T : Nat → Prop} {A B C : World} (h : KeepT T A B) (k : KeepT T B C) : KeepT T A C := ⟨Nat.le_trans h.1 k.1, fun j hj => (k.2 j hj).trans (h.2 j hj)⟩
theorem KeepT.refl (T : Nat → Prop) (W : World) : KeepT T W W := ⟨Nat.le_refl _, fun _ _ => rfl⟩
theorem KeepT.putObj {T : Nat → Prop} {w : World} (hT : ∀ k, T k → k < w.heap.size) (W : World) (l : Nat) (o o' : Obj) (hl : w.heap.size ≤ l) (_ : W.heap[l]? = some o) (_ : o.isCells = false) (_ : o.isWalk = false) : KeepT T W (W.putObj l o') :=
  ⟨by simp, fun k hk => World.putObj_heap_other (by have := hT k hk; omega)⟩
theorem KeepT.of_upd {T S : Nat → Prop} {W W' : World} (h : Upd S W W') (hT : ∀ k, T k → k < W.heap.size ∧ ¬ S k) : KeepT T W W' := ⟨h.size, fun k hk => h.block k (hT k hk).1 (hT k hk).2⟩
theorem ownFrom_upd {β : Type} {S : Nat → Prop} {B : Nat} {w₀ : World} (hB : w₀.heap.size ≤ B) : OwnFrom B (fun (_ : β) W => Upd S w₀ W) := fun s W W' row hs hg hr => hs.grown hg fun k e => .inr (by have := (hr k e).1; omega)
theorem ownFrom_at {β : Type} {B : Nat} (b : Nat) (o : β → Obj) (hb : b < B) : OwnFrom B (fun s W => W.heap[b]? = some (o s)) := fun s W W' row hs hg hr => by
  show W'.heap[b]? = some (o s)
  rw [hg.block b (ltOf hs) (fun e => by have := (hr b e.symm).1; omega)]; exact hs

theorem finRange_take (m k : Nat) (h : k < m) : (List.finRange m).take (k + 1) = (List.finRange m).take k ++ [⟨k, h⟩] := by
  rw [List.take_succ_eq_append_getElem (by simpa using h)]; simp

/-- The law for a loop over a function, the frame behind the assignment given as a change of the frame before it. -/
theorem rangeG {F : Fence} {n : Nat} {P : Program} {α : Type} {g : Operand} {ps : Array Tmp} {assign body : Code} {Q : Exit → Act → World → Prop} {tm : Array Value} {w : World}
    (hro : F.round = none) (h1 : 1 ≤ n) {gf : Nat} {lb : Array Value} (hg : Act.eval { tmps := tm, defers := [] } g = .func (.func gf) #[] lb) (hFg : F.fn gf) (eg : ∀ args w, (callFunc gf args).run P w = .ok (.enter gf args) w)
    {encs : α → Array Value} {Kp : World → World → Prop} {S Sp : List α → Prop} {N : Nat} {w0 : World} (hseq : SeqStopsK F (n - 1) P gf lb encs Kp S Sp N w0)
    (hKt : ∀ {A B C : World}, Kp A B → Kp B C → Kp A C) (hKb : ∀ (W : World) (l : Nat) (o o' : Obj), w.heap.size ≤ l → W.heap[l]? = some o → o.isCells = false → o.isWalk = false → Kp W (W.putObj l o')) (hb0 : Below w0.heap.size w0 w) (hps : ∀ x, (encs x).size = ps.size)
    (I : List α → World → Prop) (Ix : Code → List α → World → Prop) (hI : OwnFrom w.heap.size I) (hIx : ∀ c, OwnFrom w.heap.size (Ix c)) (h0 : I [] w) (f : α → Array Value → Array Value)
    (hassign : ∀ (l : Nat) (x : α) (W : World) (K : Act → World → Prop), K { tmps := f x tm, defers := [] } W →
      assign.wpIn (F.inRound l) (n - 1 - 1) P (Exit.then K (fun _ _ _ => False)) { tmps := (ps.zip (encs x)).foldl (fun t (p, v) => t.setIfInBounds p v) tm, defers := [] } W)
    (hbody : ∀ (l : Nat) (pre : List α) (x : α) (W : World), I pre W → pre.length < N → body.wpIn (F.inRound l) (n - 1 - 1) P (ownPostG w.heap.size Kp I Ix (pre ++ [x]) W) { tmps := f x tm, defers := [] } W)
    (hdone : ∀ (D : Nat) (xs : List α) (W : World), w.heap.size ≤ D → S xs → I xs W → W.heap[D]? = some (.deferred (some [])) → Q .normal { tmps := tm, defers := { target := .collected D, args := #[] } :: [] } W)
    (hstop : ∀ (D : Nat) (c : Code) (pre : List α) (W : World), w.heap.size ≤ D → Sp pre → Ix c pre W → W.heap[D]? = some (.deferred (some [])) → c.wpIn F n P Q { tmps := tm, defers := { target := .collected D, args := #[] } :: [] } W) :
    (Code.rangeFunc g ps assign body).wpIn F n P Q { tmps := tm, defers := [] } w :=
  wpIn_rangeFunc_ownG hro h1 hg hFg eg hseq hKt hKb hb0 hps I Ix hI hIx h0 (fun x => { tmps := f x tm, defers := [] }) hassign hbody hdone hstop

set_option maxRecDepth 100000 in
set_option maxHeartbeats 2000000 in
theorem chunk1_in (n : Nat) (hn : 1 ≤ n) (l Bs Bn g m cap : Nat) (hm : m ≤ 100000000) (hcap : 64 * m ≤ cap) (J Jx : List (Fin m) → World → Prop) (hD : ∀ pre W nq, J pre W → J pre (W.drewN nq))
    (hY : ∀ pre x W, J pre W → pre.length < m → YieldAt Fence.wide (n - 1) Tryd.prog l #[.slice (some ⟨g, 64 * x.1, none⟩) 64 64] W fun e W' =>
      (e = .returned (.bool true) ∧ J (pre ++ [x]) W' ∧ KeepT (fun k => k = Bs ∨ k = Bn) W W') ∨ (e = .returned (.bool false) ∧ Jx (pre ++ [x]) W'))
    (W : World) (fs fn : Nat × Nat) (ts tn : TypeId) (hBs : W.heap[Bs]? = some (.cells #[.slice (some ⟨g, 0, none⟩) (64 * m) cap] ts fs)) (hBn : W.heap[Bn]? = some (.cells #[.int .i64 64] tn fn)) (h0 : J [] W) :
    CallsIn Fence.wide n Tryd.prog 91 #[.func (.yield l) #[] #[], .pointer (some ⟨Bs, 0, none⟩), .pointer (some ⟨Bn, 0, none⟩)] W fun e W' => (∃ v, e = .returned v) ∧
      ((∃ ys, ys = List.finRange m ∧ J ys W') ∨ (∃ pre, True ∧ Jx pre W')) := by
  have HBs := Lib.hid hBs
  have HBn := Lib.hid hBn
  clear hBs hBn
  refine callsIn_of_wp Tryd.func91 rfl trivial ?_ rfl
  simp only [Tryd.ntmps91, List.size_toArray, List.length_cons, List.length_nil, Nat.reduceAdd, Nat.reduceSub, Array.replicate_succ, Array.replicate_zero, List.push_toArray, List.append_toArray, List.nil_append, List.cons_append]
  gi_wp2
  gi_loopw [4, 5] (fun i _ wr => ∃ k : Nat, k ≤ m ∧ i = .int .i64 (64 * (k : Int)) ∧ J ((List.finRange m).take k) wr ∧ KeepT (fun k => k = Bs ∨ k = Bn) W wr)
    (fun i _ _ => 64 * m - (intOf i).toNat)
  case atStart => exact ⟨0, Nat.zero_le _, by simp, by simpa using h0, KeepT.refl _ _⟩
  case round =>
    obtain ⟨k, hk, rfl, hJs, hkt⟩ := hrel
    have cs : wr.cell? ⟨Bs, 0, none⟩ = some (.slice (some ⟨g, 0, none⟩) (64 * m) cap) := by rw [cellOf ((hkt.2 Bs (.inl rfl)).trans HBs.out)]; rfl
    have cn : wr.cell? ⟨Bn, 0, none⟩ = some (.int .i64 64) := by rw [cellOf ((hkt.2 Bn (.inr rfl)).trans HBn.out)]; rfl
    have HKT := Lib.hid hkt
    clear hkt
    by_cases hlt : k < m
    · have q0 : 64 * (k : Int) + 64 ≤ 64 * (m : Int) := by omega
      have q1 : (64 * (k : Int)).toNat = 64 * k := by omega
      have q2 : 64 * (k : Int) ≤ 64 * (m : Int) := by omega
      have q3 : 64 * k ≤ 64 * m := by omega
      have q4 : 64 ≤ 64 * m - 64 * k := by omega
      gi_wp2
      gi_quiet (fail)
      obtain ⟨fn, tmps, assign, body, hy, hR⟩ := hY _ ⟨k, hlt⟩ (wr.drewN nq) (hD _ _ nq hJs) (by simp; omega)
      dsimp only at hy
      replace cs : (wr.drewN nq).cell? ⟨Bs, 0, none⟩ = some (.slice (some ⟨g, 0, none⟩) (64 * m) cap) := cs
      have HKT2 : Hid (KeepT (fun k => k = Bs ∨ k = Bn) W (wr.drewN nq)) := HKT
      clear HKT cn hJs
      generalize wr.drewN nq = W2 at *
      have q5 : 64 * (k : Int) + 64 ≤ (cap : Int) := by omega
      have q6 : 64 * k + 64 - 64 * k = 64 := by omega
      have q7 : (64 * (k : Int) + 64).toNat = 64 * k + 64 := by omega
      gi_wp2
      refine hR.mono ?_
      rintro e W3 (⟨rfl, hJ3, hk3⟩ | ⟨rfl, hJx3⟩)
      · have HK3 := Lib.hid (HKT2.out.trans hk3)
        have cn3 : W3.cell? ⟨Bn, 0, none⟩ = some (.int .i64 64) := by rw [cellOf ((HK3.out.2 Bn (.inr rfl)).trans HBn.out)]; rfl
        clear hk3
        gi_wp2
        go_roundw
        case rel => exact ⟨k + 1, by omega, by go_num, by rw [finRange_take m k hlt]; exact hJ3, HK3.out⟩
        case measure => simp [intOf]; omega
      · gi_wp2
        refine bodyPost_ret (results_none rfl _ _ _) rfl ?_
        exact ⟨⟨_, rfl⟩, .inr ⟨_, trivial, hJx3⟩⟩
    · obtain rfl : k = m := by omega
      gi_wp2
      go_end0
      exact ⟨⟨_, rfl⟩, .inl ⟨_, rfl, by rwa [List.take_of_length_le (by simp)] at hJs⟩⟩

theorem chunk_stops (n : Nat) (hn : 1 ≤ n) (Bs Bn g m cap : Nat) (hm : m ≤ 100000000) (hcap : 64 * m ≤ cap) (w : World) (fs fn : Nat × Nat) (ts tn : TypeId)
    (hBs : w.heap[Bs]? = some (.cells #[.slice (some ⟨g, 0, none⟩) (64 * m) cap] ts fs)) (hBn : w.heap[Bn]? = some (.cells #[.int .i64 64] tn fn)) :
    SeqStopsK Fence.wide n Tryd.prog 91 #[.pointer (some ⟨Bs, 0, none⟩), .pointer (some ⟨Bn, 0, none⟩)] (fun x : Fin m => #[Value.slice (some ⟨g, 64 * x.1, none⟩) 64 64]) (KeepT (fun k => k = Bs ∨ k = Bn))
      (fun ys => ys = List.finRange m) (fun _ => True) m w := fun l J Jx W hW hJ _ hY h0 =>
  chunk1_in n hn l Bs Bn g m cap hm hcap J Jx (fun pre W nq h => hJ pre W _ none h ⟨rfl, rfl, rfl, Nat.le_refl _, fun _ _ _ => rfl⟩ (fun r e => by cases e)) hY W fs fn ts tn (by rw [hW.block _ (ltOf hBs)]; exact hBs) (by rw [hW.block _ (ltOf hBn)]; exact hBn) h0

set_option maxHeartbeats 1000000 in
/-- slices.Chunk(s, 64): two boxes, and a function value that captures them. -/
theorem Chunk_any (v : Value) (hv : v.oneCell' = true) (w : World) :
    Calls Tryd.prog 64 #[v, .int .i64 64] w fun e w' => e = .returned (.func (.func 91) #[] #[.pointer (some ⟨w.heap.size, 0, none⟩), .pointer (some ⟨w.heap.size + 1, 0, none⟩)]) ∧
      (w.alloc (.cells #[v] 45)).alloc (.cells #[.int .i64 64] 3) = w' := by
  go_enter Tryd.func64, Tryd.ntmps64
  go_wp2
  go_ret
  exact ⟨rfl, rfl⟩
end Go.Proofs.YtljgphmdiflphaaDoor
