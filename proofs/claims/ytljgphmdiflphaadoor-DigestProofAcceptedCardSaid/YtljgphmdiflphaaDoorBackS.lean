/- slices.Backward over sides. -/
import Derived.Test.YtljgphmdiflphaaDoorBack
import Derived.RangeFuncNested
import Derived.RangeFuncCalls
namespace Go.Proofs.YtljgphmdiflphaaDoor
open Go.RowKit Go.Shelf
set_option linter.unusedVariables false

attribute [local go_sem] Oper.semAt_some

/-- a side of a way in memory -/
def sideV (s : ByteArray × Bool) : List Value := [.string s.1, .bool s.2]
def sidesV (l : List (ByteArray × Bool)) : List Value := l.flatMap sideV
def sideA (s : ByteArray × Bool) : Value := .agg #[.string s.1, .bool s.2]
theorem sidesV_length (l : List (ByteArray × Bool)) : (sidesV l).length = l.length * 2 := by
  induction l with
  | nil => rfl
  | cons x l ih => simp only [sidesV, List.flatMap_cons, List.length_append, sideV, List.length_cons, List.length_nil] at *; omega
theorem sidesV_get : ∀ (l : List (ByteArray × Bool)) (j : Nat) (h : j < l.length), (sidesV l)[2 * j]? = some (.string l[j].1) ∧ (sidesV l)[2 * j + 1]? = some (.bool l[j].2)
  | x :: l, 0, _ => by simp [sidesV, sideV]
  | x :: l, j + 1, h => by
    have := sidesV_get l j (by simpa using h)
    have e : sidesV (x :: l) = .string x.1 :: .bool x.2 :: sidesV l := rfl
    rw [e, show 2 * (j + 1) = 2 * j + 1 + 1 by omega, List.getElem?_cons_succ, List.getElem?_cons_succ, List.getElem?_cons_succ, List.getElem?_cons_succ]
    simpa using this

/-- The law for a loop whose variable is boxed: the box's object is given. -/
theorem rangeH {F : Fence} {n : Nat} {P : Program} {α : Type} {g : Operand} {ps : Array Tmp} {assign body : Code} {Q : Exit → Act → World → Prop} {tm : Array Value} {w : World}
    (hro : F.round = none) (h1 : 1 ≤ n) {gf : Nat} {lb : Array Value} (hg : Act.eval { tmps := tm, defers := [] } g = .func (.func gf) #[] lb) (hFg : F.fn gf) (eg : ∀ args w, (callFunc gf args).run P w = .ok (.enter gf args) w)
    {encs : α → Array Value} {Kp : World → World → Prop} {S Sp : List α → Prop} {N : Nat} {w0 : World} (hseq : SeqStopsK F (n - 1) P gf lb encs Kp S Sp N w0)
    (hKt : ∀ {A B C : World}, Kp A B → Kp B C → Kp A C) (hKb : ∀ (W : World) (l : Nat) (o o' : Obj), w.heap.size ≤ l → W.heap[l]? = some o → o.isCells = false → o.isWalk = false → Kp W (W.putObj l o')) (hb0 : Below w0.heap.size w0 w) (hps : ∀ x, (encs x).size = ps.size)
    (I : List α → World → Prop) (Ix : Code → List α → World → Prop) (hI : OwnFrom w.heap.size I) (hIx : ∀ c, OwnFrom w.heap.size (Ix c)) (h0 : I [] w) (ob : α → Obj) (hob : ∀ x, (ob x).isCells = true) (f : α → Nat → Array Value → Array Value)
    (hassign : ∀ (l : Nat) (pre : List α) (x : α) (W : World) (K : Act → World → Prop), w.heap.size ≤ W.heap.size → I pre W → (∀ (Bx : Nat) W', w.heap.size ≤ Bx → KeepsFrom w.heap.size W W' → Kp W W' → I pre W' → W'.heap[Bx]? = some (ob x) → K { tmps := f x Bx tm, defers := [] } W') →
      assign.wpIn (F.inRound l) (n - 1 - 1) P (Exit.then K (fun _ _ _ => False)) { tmps := (ps.zip (encs x)).foldl (fun t (p, v) => t.setIfInBounds p v) tm, defers := [] } W)
    (hIs : ∀ pre W, I pre W → w.heap.size ≤ W.heap.size)
    (hbody : ∀ (l : Nat) (pre : List α) (x : α) (Bx : Nat) (W : World), w.heap.size ≤ Bx → W.heap[Bx]? = some (ob x) → I pre W → pre.length < N → body.wpIn (F.inRound l) (n - 1 - 1) P (ownPostG w.heap.size Kp I Ix (pre ++ [x]) W) { tmps := f x Bx tm, defers := [] } W)
    (hdone : ∀ (D : Nat) (xs : List α) (W : World), w.heap.size ≤ D → S xs → I xs W → W.heap[D]? = some (.deferred (some [])) → Q .normal { tmps := tm, defers := { target := .collected D, args := #[] } :: [] } W)
    (hstop : ∀ (D : Nat) (c : Code) (pre : List α) (W : World), w.heap.size ≤ D → Sp pre → Ix c pre W → W.heap[D]? = some (.deferred (some [])) → c.wpIn F n P Q { tmps := tm, defers := { target := .collected D, args := #[] } :: [] } W) :
    (Code.rangeFunc g ps assign body).wpIn F n P Q { tmps := tm, defers := [] } w :=
  wpIn_rangeFunc_ownH hro h1 hg hFg eg hseq hKt hKb hb0 hps I Ix hI hIx h0 (fun x a' W => ∃ Bx, w.heap.size ≤ Bx ∧ W.heap[Bx]? = some (ob x) ∧ a' = { tmps := f x Bx tm, defers := [] })
    (fun x a' _ W W' row ⟨Bx, h1, h2, h3⟩ hg hr => ⟨Bx, h1, by
      rw [hg.block Bx (ltOf h2) (fun e => by
        obtain ⟨_, o, ho, hc⟩ := hr Bx e.symm
        rw [h2] at ho; injection ho with ho; subst ho; rw [hob x] at hc; cases hc)]; exact h2, h3⟩)
    (fun l pre x W K hi hK => hassign l pre x W K (hIs pre W hi) hi (fun Bx W' h1 h2 h3 h4 h5 => hK _ W' h2 h3 h4 ⟨Bx, h1, h5, rfl⟩))
    (fun l pre x a' W _ _ hi ⟨Bx, h1, h2, h3⟩ hlt => by subst h3; exact hbody l pre x Bx W h1 h2 hi hlt) hdone hstop

set_option maxRecDepth 100000 in
set_option maxHeartbeats 2000000 in
theorem backS1_in (n : Nat) (hn : 1 ≤ n) (l Bs g off cap : Nat) (L : List (ByteArray × Bool)) (hL : L.length ≤ 100000000) (J Jx : List (Fin L.length) → World → Prop)
    (hY : ∀ pre x W, J pre W → pre.length < L.length → YieldAt Fence.wide (n - 1) Tryd.prog l #[.int .i64 (x.1 : Int), sideA L[x]] W fun e W' =>
      (e = .returned (.bool true) ∧ J (pre ++ [x]) W' ∧ KeepT (fun k => k = Bs ∨ k = g) W W') ∨ (e = .returned (.bool false) ∧ Jx (pre ++ [x]) W'))
    (W : World) (fs : Nat × Nat) (ts : TypeId) (a : Option Addr) (ha : 0 < L.length → a = some ⟨g, off, none⟩) (hBs : W.heap[Bs]? = some (.cells #[.slice a L.length cap] ts fs)) (hc : ∀ j u, (sidesV L)[j]? = some u → W.cell? ⟨g, off + j, none⟩ = some u) (h0 : J [] W) :
    CallsIn Fence.wide n Tryd.prog 88 #[.func (.yield l) #[] #[], .pointer (some ⟨Bs, 0, none⟩)] W fun e W' => (∃ v, e = .returned v) ∧
      ((∃ ys, ys = (List.finRange L.length).reverse ∧ J ys W') ∨ (∃ pre, True ∧ Jx pre W')) := by
  have HBs := Lib.hid hBs
  have HC := Lib.hid hc
  have HA := Lib.hid ha
  clear hBs hc ha
  have c0 : W.cell? ⟨Bs, 0, none⟩ = some (.slice a L.length cap) := by rw [cellOf HBs.out]; rfl
  obtain ⟨m, hm⟩ : ∃ m, L.length = m := ⟨_, rfl⟩
  have HM := Lib.hid hm
  have HTK := Lib.hid (finRev_take L.length)
  refine callsIn_of_wp Tryd.func88 rfl trivial ?_ rfl
  simp only [Tryd.ntmps88, List.size_toArray, List.length_cons, List.length_nil, Nat.reduceAdd, Nat.reduceSub, Array.replicate_succ, Array.replicate_zero, List.push_toArray, List.append_toArray, List.nil_append, List.cons_append]
  rw [hm] at c0 hL
  clear hm
  gi_wp2
  gi_loopw [3] (fun i wr => ∃ j : Nat, j ≤ m ∧ i = .int .i64 ((j : Int) - 1) ∧ J ((List.finRange L.length).reverse.take (m - j)) wr ∧ KeepT (fun k => k = Bs ∨ k = g) W wr)
    (fun i _ => (intOf i + 1).toNat)
  case atStart => exact ⟨m, Nat.le_refl _, rfl, by simpa using h0, KeepT.refl _ _⟩
  case round =>
    clear c0
    obtain ⟨j, hj, rfl, hJs, hkt⟩ := hrel
    have cs : wr.cell? ⟨Bs, 0, none⟩ = some (.slice a m cap) := by rw [cellOf ((hkt.2 Bs (.inl rfl)).trans HBs.out), ← HM.out]; rfl
    have HKT := Lib.hid hkt
    clear hkt
    by_cases hlt : 0 < j
    · obtain ⟨q, rfl⟩ : ∃ q, j = q + 1 := ⟨j - 1, by omega⟩
      have hq : q < L.length := by rw [HM.out]; omega
      obtain rfl := HA.out (by omega)
      have c1 : wr.cell? ⟨g, off + q * 2, none⟩ = some (.string (L[q]'hq).1) := by
        rw [World.cell?_of_block (w := W) (HKT.out.2 g (.inr rfl)), Nat.mul_comm]; exact HC.out _ _ (sidesV_get L q hq).1
      have c2 : wr.cell? ⟨g, off + q * 2 + 1, none⟩ = some (.bool (L[q]'hq).2) := by
        rw [World.cell?_of_block (w := W) (HKT.out.2 g (.inr rfl)), Nat.mul_comm, Nat.add_assoc]; exact HC.out _ _ (sidesV_get L q hq).2
      obtain ⟨fn, tmps, assign, body, hy, hR⟩ := hY _ ⟨q, hq⟩ wr hJs (by rw [List.length_take, List.length_reverse, List.length_finRange, HM.out]; omega)
      have hx : L[(⟨q, hq⟩ : Fin L.length)] = L[q]'hq := rfl
      rw [hx] at hy
      dsimp only at hy
      have HTQ := HTK.out (q + 1) (by omega) (by rw [HM.out]; omega)
      have HTQ' : Hid ((List.finRange L.length).reverse.take (m - q) = (List.finRange L.length).reverse.take (m - (q + 1)) ++ [⟨q, hq⟩]) := Lib.hid (by
        have a1 : L.length - (q + 1 - 1) = m - q := by have := HM.out; omega
        have a2 : L.length - (q + 1) = m - (q + 1) := by have := HM.out; omega
        rw [a1, a2] at HTQ; exact HTQ)
      clear HTQ hx
      unfold sideA at hy
      generalize L[q]'hq = x at *
      obtain ⟨x1, x2⟩ := x
      dsimp only at hy c1 c2
      rw [show (((q + 1 : Nat) : Int) - 1) = (q : Int) by omega]
      have b0 : (q : Int) < (m : Int) := by omega
      gi_wp2
      refine hR.mono ?_
      rintro e W3 (⟨rfl, hJ3, hk3⟩ | ⟨rfl, hJx3⟩)
      · have HK3 := Lib.hid (HKT.out.trans hk3)
        clear hk3
        gi_wp2
        go_roundw
        case rel => exact ⟨q, by omega, rfl, by rw [HTQ'.out]; exact hJ3, HK3.out⟩
        case measure => simp [intOf]
      · gi_wp2
        refine bodyPost_ret (results_none rfl _ _ _) rfl ?_
        exact ⟨⟨_, rfl⟩, .inr ⟨_, trivial, hJx3⟩⟩
    · obtain rfl : j = 0 := by omega
      rw [show (((0 : Nat) : Int) - 1) = -1 from rfl]
      gi_wp2
      go_end0
      exact ⟨⟨_, rfl⟩, .inl ⟨_, rfl, by rwa [List.take_of_length_le (by rw [List.length_reverse, List.length_finRange, HM.out]; omega)] at hJs⟩⟩

theorem backS_stops (n : Nat) (hn : 1 ≤ n) (Bs g off cap : Nat) (L : List (ByteArray × Bool)) (hL : L.length ≤ 100000000) (w : World) (fs : Nat × Nat) (ts : TypeId)
    (a : Option Addr) (ha : 0 < L.length → a = some ⟨g, off, none⟩) (hBs : w.heap[Bs]? = some (.cells #[.slice a L.length cap] ts fs)) (hg : 0 < L.length → g < w.heap.size) (hc : ∀ j u, (sidesV L)[j]? = some u → w.cell? ⟨g, off + j, none⟩ = some u) :
    SeqStopsK Fence.wide n Tryd.prog 88 #[.pointer (some ⟨Bs, 0, none⟩)] (fun x : Fin L.length => #[Value.int .i64 (x.1 : Int), sideA L[x]]) (KeepT (fun k => k = Bs ∨ k = g))
      (fun ys => ys = (List.finRange L.length).reverse) (fun _ => True) L.length w := fun l J Jx W hW hJ _ hY h0 =>
  backS1_in n hn l Bs g off cap L hL J Jx hY W fs ts a ha (by rw [hW.block _ (ltOf hBs)]; exact hBs) (fun j x hj => (hW.cell (p := ⟨g, off + j, none⟩) (hg (by have := (List.getElem?_eq_some_iff.1 hj).1; rw [sidesV_length] at this; omega))).trans (hc j x hj)) h0

set_option maxHeartbeats 1000000 in
theorem BackS_any (v : Value) (hv : v.oneCell' = true) (w : World) :
    Calls Tryd.prog 60 #[v] w fun e w' => e = .returned (.func (.func 88) #[] #[.pointer (some ⟨w.heap.size, 0, none⟩)]) ∧ w.alloc (.cells #[v] 71) = w' := by
  go_enter Tryd.func60, Tryd.ntmps60
  go_wp2
  go_ret
  exact ⟨rfl, rfl⟩
end Go.Proofs.YtljgphmdiflphaaDoor
