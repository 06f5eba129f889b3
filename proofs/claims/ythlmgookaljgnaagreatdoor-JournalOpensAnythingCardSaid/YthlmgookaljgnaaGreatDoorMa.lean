/- Words and small laws that the walks of this seat share: what a call leaves as it was, rows of bytes, copies into them.
  SHA-256 in plain Lean, on lists of bytes; no program in sight.
  SHA-256: the small functions.
  SHA-256: the words of a block.
  SHA-256: a block is added to the words.
  SHA-256: the words as bytes.
-/
import Derived.Test.YthlmgookaljgnaaGreatDoorProg
import Derived.WalkKit
import Derived.WalkLawsBesides
import Derived.WalkSpells
import Derived.Deep.QuietTactic
import Derived.BigQuiet
import Derived.Handy
import Derived.Lib.LazyBuf
import Derived.Lib.BufferWrite
import Derived.Lib.Hide
import Derived.Laws.CopyOwn
import Derived.Maps.AppendAt
import Derived.KernelRfl
import Derived.Laws.BitsAllLaws
import Derived.StillTailTactics
import Derived.IntWalk
import Derived.Deep.RegionHeld3
namespace Go.Proofs.YthlmgookaljgnaaGreatDoor
open Go.RowKit

/-! ### What a call leaves as it was -/
/-- Outside S nothing that was there has turned. -/
structure Upd (S : Nat → Prop) (w w' : World) : Prop where
  os : w'.os = w.os
  tape : w'.tape = w.tape
  output : w'.output = w.output
  size : w.heap.size ≤ w'.heap.size
  block : ∀ k, k < w.heap.size → ¬ S k → w'.heap[k]? = w.heap[k]?

theorem Upd.refl (S : Nat → Prop) (w : World) : Upd S w w := ⟨rfl, rfl, rfl, Nat.le_refl _, fun _ _ _ => rfl⟩
theorem Upd.trans {S T : Nat → Prop} {a b c : World} (h : Upd S a b) (k : Upd T b c) (hT : ∀ i, i < a.heap.size → T i → S i) : Upd S a c :=
  ⟨k.os.trans h.os, k.tape.trans h.tape, k.output.trans h.output, Nat.le_trans h.size k.size, fun i hi hS =>
    (k.block i (Nat.lt_of_lt_of_le hi h.size) (fun t => hS (hT i hi t))).trans (h.block i hi hS)⟩
theorem Upd.mono {S T : Nat → Prop} {a b : World} (h : Upd S a b) (hT : ∀ i, i < a.heap.size → S i → T i) : Upd T a b :=
  ⟨h.os, h.tape, h.output, h.size, fun i hi hn => h.block i hi fun s => hn (hT i hi s)⟩
theorem Upd.below {S : Nat → Prop} {a b : World} (h : Upd S a b) (hS : ∀ i, i < a.heap.size → ¬ S i) : Below a.heap.size a b :=
  ⟨h.os, h.tape, h.output, h.size, fun i hi => h.block i hi (hS i hi)⟩
theorem Upd.of_below {S : Nat → Prop} {a b : World} (h : Below a.heap.size a b) : Upd S a b := ⟨h.os, h.tape, h.output, h.size, fun i hi _ => h.block i hi⟩
theorem Upd.alloc {S : Nat → Prop} {a w : World} (h : Upd S a w) (o : Obj) : Upd S a (w.alloc o) :=
  ⟨h.os, h.tape, h.output, by rw [World.size_alloc]; have := h.size; omega, fun k hk hn => by
    rw [Below.heap_alloc _ _ _ (Nat.lt_of_lt_of_le hk h.size)]; exact h.block k hk hn⟩
theorem Upd.drew {S : Nat → Prop} {a w : World} (h : Upd S a w) : Upd S a w.drew := ⟨h.os, h.tape, h.output, h.size, h.block⟩
theorem Upd.of_drew {S : Nat → Prop} {a w : World} (h : Upd S a.drew w) : Upd S a w := ⟨h.os, h.tape, h.output, h.size, h.block⟩
theorem Upd.of_drewN {S : Nat → Prop} {a w : World} {n : Nat} (h : Upd S (a.drewN n) w) : Upd S a w := ⟨h.os, h.tape, h.output, h.size, h.block⟩
theorem Upd.drewN {S : Nat → Prop} {a w : World} (h : Upd S a w) (n : Nat) : Upd S a (w.drewN n) := ⟨h.os, h.tape, h.output, h.size, h.block⟩
theorem Upd.setCell {S : Nat → Prop} {a w : World} (h : Upd S a w) (p : Addr) (v : Value) (hp : S p.block ∨ a.heap.size ≤ p.block) : Upd S a (w.setCell p v) :=
  ⟨h.os, h.tape, h.output, by rw [World.size_setCell]; exact h.size, fun k hk hn => by
    rw [Below.heap_setCell _ _ _ _ (fun e => by subst e; rcases hp with hp | hp; exact hn hp; omega)]; exact h.block k hk hn⟩
theorem Upd.setRow {S : Nat → Prop} {a w : World} (h : Upd S a w) (g : Nat) (cs : Array Value) (hp : S g ∨ a.heap.size ≤ g) : Upd S a (w.setRow g cs) :=
  ⟨h.os, h.tape, h.output, by rw [size_setRow]; exact h.size, fun k hk hn => by
    rw [setRow_other w g k cs (fun e => by subst e; rcases hp with hp | hp; exact hn hp; omega)]; exact h.block k hk hn⟩
theorem Upd.grown {S : Nat → Prop} {a w w' : World} {row : Option Nat} (h : Upd S a w) (hg : w.grownBy w' row) (hr : ∀ k, row = some k → S k ∨ a.heap.size ≤ k) : Upd S a w' :=
  ⟨hg.os.trans h.os, hg.tape.trans h.tape, hg.output.trans h.output, Nat.le_trans h.size hg.size, fun k hk hn =>
    (hg.block k (Nat.lt_of_lt_of_le hk h.size) (fun e => by rcases hr k e.symm with h' | h'; exact hn h'; omega)).trans (h.block k hk hn)⟩

theorem Upd.cell {S : Nat → Prop} {w w' : World} (h : Upd S w w') {a : Addr} {v : Value} (hc : w.cell? a = some v) (hS : ¬ S a.block) : w'.cell? a = some v := by
  rw [World.cell?_of_block (w := w) (h.block a.block (World.block_lt_of_cell? w a hc) hS)]; exact hc
theorem Upd.at {S : Nat → Prop} {w w' : World} (h : Upd S w w') {b : Nat} {o : Obj} (hc : w.heap[b]? = some o) (hS : ¬ S b) : w'.heap[b]? = some o := by
  rw [h.block b (Array.getElem?_eq_some_iff.1 hc).1 hS]; exact hc

/-! ### Blocks known whole -/
theorem cellOf {w : World} {b : Nat} {cs : Array Value} {t : TypeId} {fr : Nat × Nat} (h : w.heap[b]? = some (.cells cs t fr)) (o : Nat) : w.cell? ⟨b, o, none⟩ = cs[o]? := by
  simp [World.cell?, h]
theorem frozenOf {w : World} {b : Nat} {cs : Array Value} {t : TypeId} (h : w.heap[b]? = some (.cells cs t (0, 0))) (o : Nat) : w.frozen? ⟨b, o, none⟩ = false := by
  simp [World.frozen?, h]
theorem ltOf {w : World} {b : Nat} {o : Obj} (h : w.heap[b]? = some o) : b < w.heap.size := (Array.getElem?_eq_some_iff.1 h).1
theorem setOf_ {w : World} {b : Nat} {cs : Array Value} {t : TypeId} {fr : Nat × Nat} (h : w.heap[b]? = some (.cells cs t fr)) (o : Nat) (v : Value) :
    (w.setCell ⟨b, o, none⟩ v).heap[b]? = some (.cells (cs.setIfInBounds o v) t fr) := by
  simp [World.setCell, Array.getElem?_modify, h]
theorem setNe {w : World} {b k : Nat} (h : k ≠ b) (o : Nat) (v : Value) : (w.setCell ⟨b, o, none⟩ v).heap[k]? = w.heap[k]? := Below.heap_setCell _ _ _ _ h
theorem allocOld {w : World} {k : Nat} (h : k < w.heap.size) (o : Obj) : (w.alloc o).heap[k]? = w.heap[k]? := Below.heap_alloc _ _ _ h
theorem allocAt {w : World} {n : Nat} (o : Obj) (h : n = w.heap.size) : (w.alloc o).heap[n]? = some o := by rw [h]; exact heap_alloc_new w o
theorem drewHeap (w : World) : w.drew.heap = w.heap := rfl
theorem drewNHeap (w : World) (n : Nat) : (w.drewN n).heap = w.heap := rfl
theorem blk_ne {w : World} {b c : Nat} {o p : Obj} (h : w.heap[b]? = some o) (k : w.heap[c]? = some p) (hn : o ≠ p) : b ≠ c := by
  rintro rfl; rw [h] at k; exact hn (Option.some.inj k)
theorem ty_ne {w : World} {b c : Nat} {x y : Array Value} {s t : TypeId} {f g : Nat × Nat} (h : w.heap[b]? = some (.cells x s f)) (k : w.heap[c]? = some (.cells y t g)) (hn : s ≠ t) : b ≠ c :=
  blk_ne h k (fun e => hn (by injection e))

/-! ### Rows of bytes -/
theorem splice_get {α : Type} (l s : List α) (p i : Nat) (h : p + s.length ≤ l.length) :
    (splice l p s)[i]? = if i < p then l[i]? else if i < p + s.length then s[i - p]? else l[i]? := by
  unfold splice
  have hp : min p l.length = p := by omega
  rw [List.getElem?_append, List.length_take, hp]
  split
  · rename_i h1
    rw [List.getElem?_take, if_pos h1]
  · rename_i h1
    rw [List.getElem?_append]
    by_cases h2 : i < p + s.length
    · rw [if_pos (by omega), if_pos h2]
    · rw [if_neg (by omega), if_neg h2, List.getElem?_drop]
      congr 1
      omega
theorem splice_take_succ {α : Type} (l : List α) (p k : Nat) (s : List α) (hk : k < s.length) (h : p + s.length ≤ l.length) :
    (splice l p (s.take k)).set (p + k) s[k] = splice l p (s.take (k + 1)) := by
  apply List.ext_getElem?
  intro i
  have h1 : (s.take k).length = k := by rw [List.length_take]; omega
  have h2 : (s.take (k + 1)).length = k + 1 := by rw [List.length_take]; omega
  have hl : (splice l p (s.take k)).length = l.length := by unfold splice; simp; omega
  rw [List.getElem?_set, splice_get _ _ _ _ (by rw [h1]; omega), splice_get _ _ _ _ (by rw [h2]; omega), h1, h2, hl]
  by_cases e : p + k = i
  · subst e
    rw [if_pos rfl, if_pos (by omega), if_neg (by omega), if_pos (by omega), List.getElem?_take, if_pos (by omega)]
    rw [show p + k - p = k by omega, List.getElem?_eq_getElem hk]
  · rw [if_neg e]
    by_cases c1 : i < p
    · rw [if_pos c1, if_pos c1]
    · rw [if_neg c1, if_neg c1]
      by_cases c2 : i < p + k
      · rw [if_pos c2, if_pos (by omega), List.getElem?_take, List.getElem?_take, if_pos (by omega), if_pos (by omega)]
      · rw [if_neg c2, if_neg (by omega)]
def bytesV (l : List UInt8) : List Value := l.map fun x => Value.int .u8 (x.toNat : Int)
theorem bytesV_length (l : List UInt8) : (bytesV l).length = l.length := by simp [bytesV]
theorem bytesV_get {l : List UInt8} {j : Nat} (h : j < l.length) : (bytesV l)[j]? = some (.int .u8 (l[j].toNat : Int)) := by simp [bytesV, h]
theorem bytesV_set (l : List UInt8) (i : Nat) (x : UInt8) : (bytesV l).toArray.setIfInBounds i (.int .u8 (x.toNat : Int)) = (bytesV (l.set i x)).toArray := by
  simp [bytesV, List.map_set]
theorem bytesV_splice (l : List UInt8) (o : Nat) (s : List UInt8) : splice (bytesV l) o (bytesV s) = bytesV (splice l o s) := by
  simp [splice, bytesV, List.map_take, List.map_drop]
theorem bytesV_one (l : List UInt8) : ∀ v ∈ bytesV l, v.oneCell' = true := by
  intro v hv; obtain ⟨x, _, rfl⟩ := List.mem_map.1 hv; rfl

/-! ### copy into a row of bytes -/
section
variable {P : Program} {ops : Array Oper} {o : Oper} {a : Act} {w : World} {K : Act → World → Prop} {Q : Exit → Act → World → Prop}

theorem run_copy_str (w : World) (dT sT ty elem : TypeId) (dp : Option Addr) (g p dLen dCap : Nat) (s : ByteArray) (l : List UInt8) (t : TypeId)
    (hu : P.underlying dT = some (.slice elem)) (hs : (P.info? elem).map (·.size) = some 1) (hg : w.heap[g]? = some (.cells (bytesV l).toArray t (0, 0)))
    (hdp : 0 < s.size → dp = some ⟨g, p, none⟩) (hle : s.size ≤ dLen) (hfit : p + s.size ≤ l.length) :
    ∃ w', (Builtin.copy_ #[dT, sT] ty #[.slice dp dLen dCap, .string s]).run P w = .ok (goInt s.size) w' ∧
      w'.heap[g]? = some (.cells (bytesV (splice l p s.data.toList)).toArray t (0, 0)) ∧ w.grownBy w' (some g) := by
  by_cases h0 : s.size = 0
  · refine ⟨w, ?_, ?_, ⟨rfl, rfl, rfl, Nat.le_refl _, fun _ _ _ => rfl⟩⟩
    · rw [Lib.run_copy_empty_string w dT sT ty elem dp dLen dCap s hu (by rw [Option.isSome_map]; cases h : P.info? elem <;> simp_all) h0, h0]
      rfl
    · have he : s.data.toList = [] := List.eq_nil_of_length_eq_zero (by rw [← Lib.size_eq]; exact h0)
      rw [hg, he]
      simp [splice]
  · rw [hdp (by omega)]
    have hr := Lib.run_copy_row_string (P := P) w dT sT ty elem g p dLen dCap s _ t hu hs hg hle (by simp [bytesV_length]; exact hfit)
    refine ⟨_, hr, ?_, ⟨rfl, rfl, rfl, by rw [setRow_size]; exact Nat.le_refl _, fun k _ hk => setRow_other w g k _ (fun e => hk (by rw [e]))⟩⟩
    rw [setRow_heap w g _ _ t _ hg]
    have e : (Lib.byteCells s.data.toList) = bytesV s.data.toList := rfl
    have el : s.size = (bytesV s.data.toList).length := by rw [bytesV_length, ← Lib.size_eq]
    rw [e, ← bytesV_splice, splice, el, List.append_assoc]

/-- copy(row[p:], s), s a string that fits: one step of a region, in whatever order. -/
theorem step_copy_str {E : Prop} (hgd : o.guard = none) (d x : Operand) (dT sT : TypeId) (hop : o.op = .call { callee := .builtin .copy, args := #[d, x], argTypes := #[dT, sT] })
    (elem : TypeId) (hu : P.underlying dT = some (.slice elem)) (hs : (P.info? elem).map (·.size) = some 1)
    (dp : Option Addr) (dLen dCap : Nat) (hd : a.eval d = .slice dp dLen dCap) (s : ByteArray) (hx : a.eval x = .string s)
    (g p : Nat) (l : List UInt8) (t : TypeId) (hg : w.heap[g]? = some (.cells (bytesV l).toArray t (0, 0)))
    (hdp : 0 < s.size → dp = some ⟨g, p, none⟩) (hle : s.size ≤ dLen) (hfit : p + s.size ≤ l.length)
    (hK : ∀ w', Hid (w'.heap[g]? = some (.cells (bytesV (splice l p s.data.toList)).toArray t (0, 0))) → Hid (w.grownBy w' (some g)) → K (a.put o.dst (goInt s.size)) w') :
    if Region.wanted o (yielded ops a.tmps) = true then Oper.wp P o a w K Q else E := by
  have hw : Region.wanted o (yielded ops a.tmps) = true := by simp [Region.wanted, hgd]
  rw [if_pos hw]
  obtain ⟨w', hr, h1, h2⟩ := run_copy_str (P := P) w dT sT o.type elem dp g p dLen dCap s l t hu hs hg hdp hle hfit
  unfold Oper.wp
  simp [execOp, hop, resolve, invoke, builtin, hd, hx, hr, Result.andThen]
  exact hK w' h1 h2

/-- copy(to, from), two rows of one length. -/
theorem wpList_copy_rows {rest : List Oper} (hgd : o.guard = none) (d x : Operand) (dT sT : TypeId) (hop : o.op = .call { callee := .builtin .copy, args := #[d, x], argTypes := #[dT, sT] })
    (elem : TypeId) (hu : P.underlying dT = some (.slice elem)) (hs : (P.info? elem).map (·.size) = some 1) (n : Nat)
    (g h dCap sCap : Nat) (hd : a.eval d = .slice (some ⟨g, 0, none⟩) n dCap) (hx : a.eval x = .slice (some ⟨h, 0, none⟩) n sCap)
    (l m : List UInt8) (t u : TypeId) (hg : w.heap[g]? = some (.cells (bytesV l).toArray t (0, 0))) (hh : w.heap[h]? = some (.cells (bytesV m).toArray u (0, 0)))
    (hl : l.length = n) (hm : m.length = n)
    (hK : ∀ w', Hid (w'.heap[g]? = some (.cells (bytesV m).toArray t (0, 0))) → Hid (w.grownBy w' (some g)) → wpList P ops Q rest (a.put o.dst (goInt n)) w') :
    wpList P ops Q (o :: rest) a w := by
  refine wpList_plain hgd fun K hK' => ?_
  have hr := run_copy_row (P := P) w dT sT o.type elem g 0 n dCap ⟨h, 0, none⟩ n sCap _ t (bytesV m) hu hs hg (by simp [bytesV_length, hm])
    (fun j v hv => by
      have ha : (⟨h, 0, none⟩ : Addr).add j = ⟨h, j, none⟩ := by unfold Addr.add; split <;> simp_all
      rw [ha, cellOf hh]; simpa using hv) (by simp [bytesV_length, hl, hm]) (bytesV_one m)
  unfold Oper.wp
  simp [execOp, hop, resolve, invoke, builtin, hd, hx, hr, Result.andThen]
  refine hK' _ _ ?_
  rw [bytesV_length, hm]
  refine hK _ ?_ ⟨rfl, rfl, rfl, by rw [setRow_size]; exact Nat.le_refl _, fun k _ hk => setRow_other w g k _ (fun e => hk (by rw [e]))⟩
  show _ = _
  rw [setRow_heap w g _ _ t _ hg]
  rw [List.drop_of_length_le (by simp [bytesV_length, hl])]
  simp

/-- clear(v), v a row of the call's own. -/
theorem run_clear_own {base t e ty size n : Nat} {v : Value} {xs : List Value} (w : World) (ht : P.underlying t = some (.slice e)) (z : Value) (hv : ∀ w, (zeroValue e).run P w = .ok z w) (hz : z.cells.size = size)
    (h1 : ∀ u ∈ z.cells, u.oneCell' = true) (hown : w.ownsRow base e size v n xs) :
    ∃ w' xs', (Builtin.clear_ #[t] ty #[v]).run P w = .ok (.tuple #[]) w' ∧ w'.ownsRow base e size v n xs' ∧ w.grownBy w' v.ownBlock := by
  rcases hown.2 with ⟨rfl, rfl⟩ | ⟨g, cap, cur, rfl, hb, hg, hn, hc, hs, htk⟩
  · refine ⟨w, xs, ?_, hown, ⟨rfl, rfl, rfl, Nat.le_refl _, fun _ _ _ => rfl⟩⟩
    simp [Builtin.clear_, run_underlying ht]
  · by_cases h0 : n = 0
    · subst h0
      refine ⟨w, xs, ?_, hown, ⟨rfl, rfl, rfl, Nat.le_refl _, fun _ _ _ => rfl⟩⟩
      simp [Builtin.clear_, run_underlying ht]
    · have hl : (Builtin.zeroCells z.cells n).toList.length = n * size := by rw [Array.length_toList, size_zeroCells, hz]
      have hle : n * size ≤ cap * size := Nat.mul_le_mul_right _ hn
      have hst := run_storeCells_at P g 0 e (Builtin.zeroCells z.cells n).toList 0 cur w hg (by rw [hl, hs]; simpa using hle) (by
        intro u hu
        rw [Array.mem_toList_iff] at hu
        simp [Builtin.zeroCells] at hu
        obtain ⟨i, hi, hu⟩ := hu
        have hpos : 0 < z.cells.size := Nat.pos_of_ne_zero fun e => by rw [e] at hi; omega
        rw [getElem!_pos z.cells _ (Nat.mod_lt _ hpos)] at hu
        rw [← hu]
        exact h1 _ (Array.getElem_mem _))
      refine ⟨w.setRow g (List.take (0 + 0) cur.toList ++ (Builtin.zeroCells z.cells n).toList ++ List.drop (0 + 0 + (Builtin.zeroCells z.cells n).toList.length) cur.toList).toArray, (Builtin.zeroCells z.cells n).toList, ?_, ⟨hl, .inr ⟨g, cap, _, rfl, hb, setRow_heap w g _ _ e _ hg, hn, hc, ?_, ?_⟩⟩, ⟨rfl, rfl, rfl, by rw [setRow_size]; exact Nat.le_refl _, fun k _ hk => setRow_other w g k _ (fun e => hk (by simp [Value.ownBlock, e]))⟩⟩
      · obtain ⟨m, rfl⟩ : ∃ m, n = m + 1 := ⟨n - 1, by omega⟩
        simp only [Builtin.clear_, List.getElem?_toArray, List.getElem?_cons_zero, Sem.run_bind, run_underlying ht, Result.andThen_ok, hv, hst]
        rfl
      · simp only [List.size_toArray, List.length_append, List.length_take, List.length_drop, Array.length_toList, size_zeroCells, hz, hs]
        omega
      · simp only [Nat.zero_add, List.take_zero, List.nil_append]
        rw [← hl]
        exact List.take_left

theorem wpList_clear_own {rest : List Oper} (hgd : o.guard = none) (x : Operand) (t : TypeId) (hop : o.op = .call { callee := .builtin .clear, args := #[x], argTypes := #[t] })
    (base e size : Nat) (ht : P.underlying t = some (.slice e)) (z : Value) (hv : ∀ w, (zeroValue e).run P w = .ok z w) (hz : z.cells.size = size) (h1 : ∀ u ∈ z.cells, u.oneCell' = true)
    (v : Value) (n : Nat) (xs : List Value) (hx : a.eval x = v) (hown : w.ownsRow base e size v n xs)
    (hK : ∀ w' xs', Hid (w'.ownsRow base e size v n xs') → Hid (w.grownBy w' v.ownBlock) → wpList P ops Q rest (a.put o.dst (.tuple #[])) w') :
    wpList P ops Q (o :: rest) a w := by
  refine wpList_plain hgd fun K hK' => ?_
  obtain ⟨w', xs', hr, h2, h3⟩ := run_clear_own (P := P) (ty := o.type) w ht z hv hz h1 hown
  unfold Oper.wp
  simp [execOp, hop, resolve, invoke, builtin, hx, hr, Result.andThen]
  exact hK' _ _ (hK w' xs' h2 h3)

/-- string(row[p:p+m]) -/
theorem run_conv_row {w : World} (src dst e : TypeId) (hs : P.underlying src = some (.slice e)) (he : P.underlying e = some (.int .u8)) (hd : P.underlying dst = some .string) (g p m cap : Nat) (l : List UInt8) (t : TypeId)
    (hg : w.heap[g]? = some (.cells (bytesV l).toArray t (0, 0))) (h : p + m ≤ l.length) :
    (convert src dst (.slice (some ⟨g, p, none⟩) m cap)).run P w = .ok (.string ⟨((l.drop p).take m).toArray⟩) w := by
  have hr := run_convert_bytes_arg (P := P) w src e hs he g p m cap (((l.drop p).take m).map fun x => (x.toNat : Int)) (by simp; omega) (fun i hi => by
    rw [cellOf hg]
    have h1 : p + i < l.length := by omega
    simp [bytesV, h1, hi, List.getElem?_drop]) dst hd
  rw [hr]
  simp [strOfNums, Function.comp_def]

/-- clear(row[p:p+m]), one cell an element. -/
theorem run_clear_sub (w : World) (t e ty : TypeId) (ht : P.underlying t = some (.slice e)) (z : Value) (hv : ∀ w, (zeroValue e).run P w = .ok z w) (hz : z.cells = #[z]) (h1 : z.oneCell' = true)
    (dp : Option Addr) (g p m c : Nat) (cur : List Value) (u : TypeId) (hg : w.heap[g]? = some (.cells cur.toArray u (0, 0))) (hdp : 0 < m → dp = some ⟨g, p, none⟩) (hfit : p + m ≤ cur.length) :
    ∃ w', (Builtin.clear_ #[t] ty #[.slice dp m c]).run P w = .ok (.tuple #[]) w' ∧ w'.heap[g]? = some (.cells (splice cur p (List.replicate m z)).toArray u (0, 0)) ∧ w.grownBy w' (some g) := by
  by_cases h0 : m = 0
  · subst h0
    refine ⟨w, ?_, by simpa [splice] using hg, ⟨rfl, rfl, rfl, Nat.le_refl _, fun _ _ _ => rfl⟩⟩
    cases dp <;> simp [Builtin.clear_, run_underlying ht]
  · obtain ⟨m, rfl⟩ : ∃ k, m = k + 1 := ⟨m - 1, by omega⟩
    rw [hdp (by omega)]
    have hzc : (Builtin.zeroCells z.cells (m + 1)).toList = List.replicate (m + 1) z := by
      apply List.ext_getElem
      · rw [Array.length_toList, size_zeroCells, hz]; simp
      · intro i h1 h2
        simp [Builtin.zeroCells, hz, Nat.mod_one]
    have hst := run_storeCells_at P g p u (List.replicate (m + 1) z) 0 cur.toArray w hg (by simpa using hfit) (by intro v hv'; rw [(List.mem_replicate.1 hv').2]; exact h1)
    refine ⟨_, ?_, setRow_heap w g _ _ u _ hg, ⟨rfl, rfl, rfl, by rw [setRow_size]; exact Nat.le_refl _, fun k _ hk => setRow_other w g k _ (fun e => hk (by rw [e]))⟩⟩
    simp only [Builtin.clear_, List.getElem?_toArray, List.getElem?_cons_zero, Sem.run_bind, run_underlying ht, Result.andThen_ok, hv, hzc, hst]
    simp [splice]

theorem wpList_clear_sub {rest : List Oper} (hgd : o.guard = none) (x : Operand) (t : TypeId) (hop : o.op = .call { callee := .builtin .clear, args := #[x], argTypes := #[t] })
    (e : TypeId) (ht : P.underlying t = some (.slice e)) (z : Value) (hv : ∀ w, (zeroValue e).run P w = .ok z w) (hz : z.cells = #[z]) (h1 : z.oneCell' = true)
    (dp : Option Addr) (m c : Nat) (hx : a.eval x = .slice dp m c) (g p : Nat) (cur : List Value) (u : TypeId) (hg : w.heap[g]? = some (.cells cur.toArray u (0, 0))) (hdp : 0 < m → dp = some ⟨g, p, none⟩) (hfit : p + m ≤ cur.length)
    (hK : ∀ w', Hid (w'.heap[g]? = some (.cells (splice cur p (List.replicate m z)).toArray u (0, 0))) → Hid (w.grownBy w' (some g)) → wpList P ops Q rest (a.put o.dst (.tuple #[])) w') :
    wpList P ops Q (o :: rest) a w := by
  refine wpList_plain hgd fun K hK' => ?_
  obtain ⟨w', hr, h2, h3⟩ := run_clear_sub (P := P) w t e o.type ht z hv hz h1 dp g p m c cur u hg hdp hfit
  unfold Oper.wp
  simp [execOp, hop, resolve, invoke, builtin, hx, hr, Result.andThen]
  exact hK' _ _ (hK w' h2 h3)
end

end Go.Proofs.YthlmgookaljgnaaGreatDoor
namespace Sha

/-- a word rotated right by n, 1 to 31 -/
def rotr (x n : Nat) : Nat := x / 2 ^ n ||| x * 2 ^ (32 - n) % 4294967296
/-- a word combined with rotations of it -/
def mix (x : Nat) (l : List Nat) : Nat := l.foldl (fun a n => a ^^^ rotr x n) 0

def K : List Nat := [
  0x428a2f98, 0x71374491, 0xb5c0fbcf, 0xe9b5dba5, 0x3956c25b, 0x59f111f1, 0x923f82a4, 0xab1c5ed5,
  0xd807aa98, 0x12835b01, 0x243185be, 0x550c7dc3, 0x72be5d74, 0x80deb1fe, 0x9bdc06a7, 0xc19bf174,
  0xe49b69c1, 0xefbe4786, 0x0fc19dc6, 0x240ca1cc, 0x2de92c6f, 0x4a7484aa, 0x5cb0a9dc, 0x76f988da,
  0x983e5152, 0xa831c66d, 0xb00327c8, 0xbf597fc7, 0xc6e00bf3, 0xd5a79147, 0x06ca6351, 0x14292967,
  0x27b70a85, 0x2e1b2138, 0x4d2c6dfc, 0x53380d13, 0x650a7354, 0x766a0abb, 0x81c2c92e, 0x92722c85,
  0xa2bfe8a1, 0xa81a664b, 0xc24b8b70, 0xc76c51a3, 0xd192e819, 0xd6990624, 0xf40e3585, 0x106aa070,
  0x19a4c116, 0x1e376c08, 0x2748774c, 0x34b0bcb5, 0x391c0cb3, 0x4ed8aa4a, 0x5b9cca4f, 0x682e6ff3,
  0x748f82ee, 0x78a5636f, 0x84c87814, 0x8cc70208, 0x90befffa, 0xa4506ceb, 0xbef9a3f7, 0xc67178f2]
theorem K_length : K.length = 64 := rfl
theorem K_lt : ∀ k ∈ K, k < 4294967296 := by decide

/-- the i-th word of a block -/
def wordv (x0 x1 x2 x3 : Nat) : Nat := ((x0 * 16777216 ||| x1 * 65536) ||| x2 * 256) ||| x3
def word (b : List Nat) (i : Nat) : Nat := wordv (b.getD (4 * i) 0) (b.getD (4 * i + 1) 0) (b.getD (4 * i + 2) 0) (b.getD (4 * i + 3) 0)
/-- the word that follows i words -/
def nextv (x16 x15 x7 x2 : Nat) : Nat := (((x16 + (mix x15 [7, 18] ^^^ x15 / 8)) % 4294967296 + x7) % 4294967296 + (mix x2 [17, 19] ^^^ x2 / 1024)) % 4294967296
def next (w : List Nat) (i : Nat) : Nat := nextv (w.getD (i - 16) 0) (w.getD (i - 15) 0) (w.getD (i - 7) 0) (w.getD (i - 2) 0)
/-- the first n words -/
def schedN (b : List Nat) : Nat → List Nat
  | 0 => []
  | n + 1 => let w := schedN b n; w ++ [if n < 16 then word b n else next w n]
theorem schedN_length (b : List Nat) : ∀ n, (schedN b n).length = n
  | 0 => rfl
  | n + 1 => by simp [schedN, schedN_length b n]
theorem schedN_lo (b : List Nat) (n : Nat) (h : n < 16) : schedN b (n + 1) = schedN b n ++ [word b n] := by simp [schedN, h]
theorem schedN_hi (b : List Nat) (n : Nat) (h : 16 ≤ n) : schedN b (n + 1) = schedN b n ++ [next (schedN b n) n] := by
  simp only [schedN]; rw [if_neg (by omega)]

def tval (e f g h k w : Nat) : Nat := ((((h + mix e [6, 11, 25]) % 4294967296 + ((e &&& f) ^^^ ((4294967295 - e) &&& g))) % 4294967296 + k) % 4294967296 + w) % 4294967296
def uval (a b c : Nat) : Nat := (mix a [2, 13, 22] + (((a &&& b) ^^^ (a &&& c)) ^^^ (b &&& c))) % 4294967296
theorem tval_lt (e f g h k w : Nat) : tval e f g h k w < 4294967296 := Nat.mod_lt _ (by decide)
theorem uval_lt (a b c : Nat) : uval a b c < 4294967296 := Nat.mod_lt _ (by decide)
/-- one round -/
def rd (k w : Nat) : List Nat → List Nat
  | [a, b, c, d, e, f, g, h] =>
    [(tval e f g h k w + uval a b c) % 4294967296, a, b, c, (d + tval e f g h k w) % 4294967296, e, f, g]
  | v => v
def rounds (w : List Nat) (v : List Nat) : Nat → List Nat
  | 0 => v
  | i + 1 => rd (K.getD i 0) (w.getD i 0) (rounds w v i)
def addV (h v : List Nat) : List Nat := List.zipWith (fun x y => (x + y) % 4294967296) h v
/-- a block -/
def blk (h : List Nat) (b : List Nat) : List Nat := addV h (rounds (schedN b 64) h 64)

def H0 : List Nat := [0x6a09e667, 0xbb67ae85, 0x3c6ef372, 0xa54ff53a, 0x510e527f, 0x9b05688c, 0x1f83d9ab, 0x5be0cd19]
/-- the number of zeros behind n bytes and the byte 128 -/
def zeros (n : Nat) : Nat := (119 - n % 64) % 64
def be8 (n : Nat) : List Nat := [n / 2 ^ 56 % 256, n / 2 ^ 48 % 256, n / 2 ^ 40 % 256, n / 2 ^ 32 % 256, n / 2 ^ 24 % 256, n / 2 ^ 16 % 256, n / 2 ^ 8 % 256, n / 2 ^ 0 % 256]
def pad (s : List Nat) : List Nat := s ++ 128 :: (List.replicate (zeros s.length) 0 ++ be8 (8 * s.length))
def run : Nat → List Nat → List Nat → List Nat
  | 0, h, _ => h
  | n + 1, h, b => run n (blk h (b.take 64)) (b.drop 64)
def be4 (x : Nat) : List Nat := [x / 16777216 % 256, x / 65536 % 256, x / 256 % 256, x % 256]
/-- SHA-256 on bytes as numbers -/
def sumN (s : List Nat) : List Nat := (run ((s.length + 72) / 64) H0 (pad s)).flatMap be4

def nats (s : List UInt8) : List Nat := s.map UInt8.toNat
def sum (s : List UInt8) : List UInt8 := (sumN (nats s)).map UInt8.ofNat

theorem pad_length (s : List Nat) : (pad s).length = (s.length + 72) / 64 * 64 := by
  simp only [pad, zeros, be8, List.length_append, List.length_cons, List.length_replicate, List.length_nil]
  omega

theorem run_succ : ∀ (n : Nat) (h b : List Nat), run (n + 1) h b = blk (run n h b) ((b.drop (64 * n)).take 64)
  | 0, h, b => by simp [run]
  | n + 1, h, b => by
    rw [run, run_succ n, run, List.drop_drop, show 64 + 64 * n = 64 * (n + 1) by omega]
theorem rd_length (k w : Nat) (v : List Nat) (h : v.length = 8) : (rd k w v).length = 8 := by
  match v, h with
  | [a, b, c, d, e, f, g, h], _ => rfl
theorem rounds_length (w v : List Nat) (h : v.length = 8) : ∀ i, (rounds w v i).length = 8
  | 0 => h
  | i + 1 => rd_length _ _ _ (rounds_length w v h i)
theorem blk_length (h b : List Nat) (hh : h.length = 8) : (blk h b).length = 8 := by
  simp [blk, addV, rounds_length _ _ hh, hh]
theorem run_length : ∀ n h b, h.length = 8 → (run n h b).length = 8
  | 0, _, _, hh => hh
  | n + 1, _, _, hh => run_length n _ _ (blk_length _ _ hh)
theorem flat_length : ∀ l : List Nat, (l.flatMap be4).length = 4 * l.length
  | [] => rfl
  | x :: l => by simp [flat_length l, be4]; omega
theorem sum_length (s : List UInt8) : (sum s).length = 32 := by
  unfold sum sumN
  rw [List.length_map, flat_length, run_length _ H0 _ rfl]

theorem rotr_lt (x n : Nat) (hx : x < 4294967296) : rotr x n < 4294967296 := by
  unfold rotr
  refine Nat.or_lt_two_pow (n := 32) ?_ (Nat.mod_lt _ (by decide))
  exact Nat.lt_of_le_of_lt (Nat.div_le_self _ _) hx
theorem mix_lt (x : Nat) (hx : x < 4294967296) : ∀ (l : List Nat), mix x l < 4294967296 := by
  have : ∀ (l : List Nat) (a : Nat), a < 4294967296 → l.foldl (fun a n => a ^^^ rotr x n) a < 4294967296 := by
    intro l
    induction l with
    | nil => exact fun a h => h
    | cons n l ih => exact fun a h => ih _ (Nat.xor_lt_two_pow (n := 32) h (rotr_lt x n hx))
  exact fun l => this l 0 (by decide)
theorem mix_snoc (x : Nat) (l : List Nat) (n : Nat) : mix x (l ++ [n]) = mix x l ^^^ rotr x n := by simp [mix]

def small (l : List Nat) : Prop := ∀ x ∈ l, x < 4294967296
theorem getD_lt {l : List Nat} (h : small l) (i : Nat) : l.getD i 0 < 4294967296 := by
  rw [List.getD_eq_getElem?_getD]
  by_cases hi : i < l.length
  · rw [List.getElem?_eq_getElem hi]; exact h _ (List.getElem_mem hi)
  · rw [List.getElem?_eq_none (by omega)]; decide
def bytes (l : List Nat) : Prop := ∀ x ∈ l, x < 256
theorem getD_byte {l : List Nat} (h : bytes l) (i : Nat) : l.getD i 0 < 256 := by
  rw [List.getD_eq_getElem?_getD]
  by_cases hi : i < l.length
  · rw [List.getElem?_eq_getElem hi]; exact h _ (List.getElem_mem hi)
  · rw [List.getElem?_eq_none (by omega)]; decide
theorem nats_bytes (s : List UInt8) : bytes (nats s) := by
  intro x hx
  obtain ⟨y, _, rfl⟩ := List.mem_map.1 hx
  exact y.toNat_lt
theorem word_lt {b : List Nat} (h : bytes b) (i : Nat) : word b i < 4294967296 := by
  unfold word wordv
  have h0 := getD_byte h (4 * i)
  have h1 := getD_byte h (4 * i + 1)
  have h2 := getD_byte h (4 * i + 2)
  have h3 := getD_byte h (4 * i + 3)
  refine Nat.or_lt_two_pow (n := 32) (Nat.or_lt_two_pow (n := 32) (Nat.or_lt_two_pow (n := 32) ?_ ?_) ?_) ?_ <;> omega
theorem next_lt (w : List Nat) (i : Nat) : next w i < 4294967296 := Nat.mod_lt _ (by decide)
theorem sched_small {b : List Nat} (h : bytes b) : ∀ n, small (schedN b n)
  | 0 => fun x hx => by cases hx
  | n + 1 => by
    intro x hx
    simp only [schedN, List.mem_append, List.mem_singleton] at hx
    rcases hx with hx | rfl
    · exact sched_small h n x hx
    · split
      · exact word_lt h n
      · exact next_lt _ _
theorem rd_small (k w : Nat) (v : List Nat) (h : small v) : small (rd k w v) := by
  unfold rd
  split
  · intro x hx
    simp only [List.mem_cons, List.not_mem_nil, or_false] at hx
    rcases hx with rfl | rfl | rfl | rfl | rfl | rfl | rfl | rfl
    · exact Nat.mod_lt _ (by decide)
    · exact h _ (by simp)
    · exact h _ (by simp)
    · exact h _ (by simp)
    · exact Nat.mod_lt _ (by decide)
    · exact h _ (by simp)
    · exact h _ (by simp)
    · exact h _ (by simp)
  · exact h
theorem rounds_small (w v : List Nat) (h : small v) : ∀ i, small (rounds w v i)
  | 0 => h
  | i + 1 => rd_small _ _ _ (rounds_small w v h i)
theorem addV_small (h v : List Nat) : small (addV h v) := by
  intro x hx
  simp only [addV, List.mem_iff_getElem, List.length_zipWith, List.getElem_zipWith] at hx
  obtain ⟨i, hi, rfl⟩ := hx
  exact Nat.mod_lt _ (by decide)
theorem pad_bytes (s : List Nat) (h : bytes s) : bytes (pad s) := by
  intro x hx
  simp only [pad, be8, List.mem_append, List.mem_cons, List.mem_replicate, List.not_mem_nil, or_false] at hx
  rcases hx with hx | rfl | ⟨_, rfl⟩ | hx
  · exact h x hx
  · decide
  · decide
  · omega
theorem H0_small : small H0 := by unfold small; decide
theorem run_small : ∀ n h b, small h → small (run n h b)
  | 0, _, _, hh => hh
  | n + 1, _, _, _ => run_small n _ _ (addV_small _ _)

/-! ### Two known answers -/
theorem sum_empty : sum [] = [227, 176, 196, 66, 152, 252, 28, 20, 154, 251, 244, 200, 153, 111, 185, 36, 39, 174, 65, 228, 100, 155, 147, 76, 164, 149, 153, 27, 120, 82, 184, 85] := by decide +kernel
end Sha
namespace Go.Proofs.YthlmgookaljgnaaGreatDoor
open Go.RowKit
set_option linter.unusedVariables false

theorem ret_int {k : IntKind} {a b : Int} (h : a = b) : Ending.returned (.int k a) = .returned (.int k b) := by rw [h]

theorem rot_and (n : Nat) (h1 : 1 ≤ n) (h2 : n ≤ 31) : bits .and .u64 (IntKind.u64.wrap (-(n : Int))) 31 = ((32 - n : Nat) : Int) := by
  have e : IntKind.u64.wrap (-(n : Int)) = ((18446744073709551616 - n : Nat) : Int) := by rw [IntKind.wrap_u64]; omega
  rw [e]
  have := u64_and_nat (18446744073709551616 - n) 31 (by omega) (by omega)
  rw [show ((31 : Nat) : Int) = 31 from rfl] at this
  rw [this, nat_mask5]
  omega
theorem rot_sub (n : Nat) (h1 : 1 ≤ n) (h2 : n ≤ 31) : IntKind.u64.wrap (32 - ((32 - n : Nat) : Int)) = (n : Int) := by
  rw [IntKind.wrap_u64]; omega
theorem rot_end (x n : Nat) (hx : x < 4294967296) (h1 : 1 ≤ n) (h2 : n ≤ 31) :
    bits .or .u32 ((x : Int) * 2 ^ min (32 - n) 32 % 4294967296) ((x : Int) / 2 ^ n) = ((Sha.rotr x n : Nat) : Int) := by
  rw [Nat.min_eq_left (by omega)]
  have e1 : (x : Int) * 2 ^ (32 - n) % 4294967296 = ((x * 2 ^ (32 - n) % 4294967296 : Nat) : Int) := by simp
  have e2 : (x : Int) / 2 ^ n = ((x / 2 ^ n : Nat) : Int) := by simp
  rw [e1, e2, u32_or_nat _ _ (Nat.mod_lt _ (by decide)) (Nat.lt_of_le_of_lt (Nat.div_le_self _ _) hx), Sha.rotr, Nat.or_comm]

set_option maxHeartbeats 400000 in
theorem rotl_any (x n : Nat) (w : World) (hx : x < 4294967296) (h1 : 1 ≤ n) (h2 : n ≤ 31) :
    Calls Tryz.prog 143 #[.int .u32 (x : Int), .int .i64 (-(n : Int))] w fun e w' => e = .returned (.int .u32 (Sha.rotr x n : Nat)) ∧ w = w' := by
  have E := Lib.hid (rot_end x n hx h1 h2)
  have a1 := rot_and n h1 h2
  have a2 := rot_sub n h1 h2
  generalize 32 - n = m at a1 a2 E
  go_enter Tryz.func143, Tryz.ntmps143
  go_wp2
  go_ret
  exact ⟨ret_int E.out, rfl⟩

/-- the numbers of a slice of ints -/
def intsV (zs : List Int) : List Value := zs.map (Value.int .i64)

set_option maxHeartbeats 400000 in
theorem mixed_any (x : Nat) (ns : List Nat) (g c : Nat) (w : World) (hx : x < 4294967296) (hn : ∀ n ∈ ns, 1 ≤ n ∧ n ≤ 31) (hl : ns.length ≤ 100)
    (hc : ∀ i, i < ns.length → w.cell? ⟨g, i, none⟩ = some (.int .i64 (ns.getD i 0 : Nat))) :
    Calls Tryz.prog 134 #[.int .u32 (x : Int), .slice (some ⟨g, 0, none⟩) ns.length c] w fun e w' => e = .returned (.int .u32 (Sha.mix x ns : Nat)) ∧ w = w' := by
  have hb : ∀ l : List Nat, Sha.mix x l < 4294967296 := Sha.mix_lt x hx
  have HC := Lib.hid hc
  clear hc
  go_enter Tryz.func134, Tryz.ntmps134
  go_wp2
  go_loop [5, 10] (fun o i => ∃ k : Nat, k ≤ ns.length ∧ i = .int .i64 k ∧ o = .int .u32 (Sha.mix x (ns.take k) : Nat)) (fun _ i => ns.length - (intOf i).toNat)
  case atStart => exact ⟨0, Nat.zero_le _, rfl, rfl⟩
  case round =>
    obtain ⟨k, hk, rfl, rfl⟩ := hrel
    by_cases hlt : k < ns.length
    · have hcell := HC.out k hlt
      obtain ⟨h1, h2⟩ := hn (ns.getD k 0) (by rw [List.getD_eq_getElem?_getD, List.getElem?_eq_getElem hlt]; exact List.getElem_mem hlt)
      have X := Lib.hid (u32_xor_nat (Sha.mix x (ns.take k)) (Sha.rotr x (ns.getD k 0)) (hb _) (Sha.rotr_lt _ _ hx))
      have S : Hid (Sha.mix x (ns.take (k + 1)) = Sha.mix x (ns.take k) ^^^ Sha.rotr x (ns.getD k 0)) := by
        rw [List.take_succ_eq_append_getElem hlt, Sha.mix_snoc, List.getD_eq_getElem?_getD, List.getElem?_eq_getElem hlt]; rfl
      generalize ns.getD k 0 = n at *
      go_wp2_with (go_at_call 143; refine (rotl_any x n _ hx h1 h2).mono ?_; rintro e w' ⟨rfl, rfl⟩)
      go_round
      case rel => exact ⟨k + 1, by omega, by go_num, by rw [S.out, X.out]⟩
      case measure => simp [intOf]; omega
    · obtain rfl : k = ns.length := by omega
      go_wp2
      go_ret
      exact ⟨rfl, rfl⟩
end Go.Proofs.YthlmgookaljgnaaGreatDoor
namespace Go.Proofs.YthlmgookaljgnaaGreatDoor
open Go.RowKit
set_option linter.unusedVariables false

def wv (l : List Nat) : List Value := l.map fun (x : Nat) => Value.int .u32 (x : Int)
theorem wv_length (l : List Nat) : (wv l).length = l.length := by simp [wv]

/-- The bytes that a slice reads: 64 of them from an offset on. -/
def BytesAt (w : World) (g off : Nat) (bs : List Nat) : Prop := ∀ i, i < bs.length → w.cell? ⟨g, off + i, none⟩ = some (.int .u8 (bs.getD i 0 : Nat))

theorem word_int (x0 x1 x2 x3 : Nat) (l0 : x0 < 256) (l1 : x1 < 256) (l2 : x2 < 256) (l3 : x3 < 256) :
    bits BinOp.or IntKind.u32 (bits BinOp.or IntKind.u32 (bits BinOp.or IntKind.u32 (IntKind.u32.wrap (IntKind.u32.wrap ↑x0 * 16777216)) (IntKind.u32.wrap (IntKind.u32.wrap ↑x1 * 65536)))
      (IntKind.u32.wrap (IntKind.u32.wrap ↑x2 * 256))) (IntKind.u32.wrap ↑x3) = ((Sha.wordv x0 x1 x2 x3 : Nat) : Int) := by
  unfold Sha.wordv
  have w0 : ∀ x : Nat, x < 4294967296 → IntKind.u32.wrap (x : Int) = (x : Int) := fun x h => by rw [IntKind.wrap_u32']; omega
  rw [w0 x0 (by omega), w0 x1 (by omega), w0 x2 (by omega), w0 x3 (by omega)]
  rw [show (x0 : Int) * 16777216 = ((x0 * 16777216 : Nat) : Int) by simp, show (x1 : Int) * 65536 = ((x1 * 65536 : Nat) : Int) by simp, show (x2 : Int) * 256 = ((x2 * 256 : Nat) : Int) by simp]
  rw [w0 _ (by omega), w0 _ (by omega), w0 _ (by omega)]
  have h1 : x0 * 16777216 ||| x1 * 65536 < 4294967296 := Nat.or_lt_two_pow (n := 32) (by omega) (by omega)
  have h2 : (x0 * 16777216 ||| x1 * 65536) ||| x2 * 256 < 4294967296 := Nat.or_lt_two_pow (n := 32) h1 (by omega)
  rw [u32_or_nat _ _ (by omega) (by omega), u32_or_nat _ _ h1 (by omega), u32_or_nat _ _ h2 (by omega)]

def Sched (w : World) (bs : List Nat) (k : Nat) (wr : World) : Prop :=
  wr.heap[w.heap.size]? = some (.cells (wv (Sha.schedN bs k ++ List.replicate (64 - k) 0)).toArray 204 (0, 0)) ∧ Below w.heap.size w wr

theorem mixed2_any (x n m g c : Nat) (w : World) (hx : x < 4294967296) (hn : 1 ≤ n ∧ n ≤ 31) (hm : 1 ≤ m ∧ m ≤ 31)
    (c0 : w.cell? ⟨g, 0, none⟩ = some (.int .i64 (n : Nat))) (c1 : w.cell? ⟨g, 1, none⟩ = some (.int .i64 (m : Nat))) :
    Calls Tryz.prog 134 #[.int .u32 (x : Int), .slice (some ⟨g, 0, none⟩) 2 c] w fun e w' => e = .returned (.int .u32 (Sha.mix x [n, m] : Nat)) ∧ w = w' :=
  mixed_any x [n, m] g c w hx (by intro y hy; simp at hy; rcases hy with rfl | rfl; exact hn; exact hm) (by simp) (by
    intro i hi
    match i, hi with
    | 0, _ => exact c0
    | 1, _ => exact c1)
theorem mixed3_any (x n m p g c : Nat) (w : World) (hx : x < 4294967296) (hn : 1 ≤ n ∧ n ≤ 31) (hm : 1 ≤ m ∧ m ≤ 31) (hp : 1 ≤ p ∧ p ≤ 31)
    (c0 : w.cell? ⟨g, 0, none⟩ = some (.int .i64 (n : Nat))) (c1 : w.cell? ⟨g, 1, none⟩ = some (.int .i64 (m : Nat))) (c2 : w.cell? ⟨g, 2, none⟩ = some (.int .i64 (p : Nat))) :
    Calls Tryz.prog 134 #[.int .u32 (x : Int), .slice (some ⟨g, 0, none⟩) 3 c] w fun e w' => e = .returned (.int .u32 (Sha.mix x [n, m, p] : Nat)) ∧ w = w' :=
  mixed_any x [n, m, p] g c w hx (by intro y hy; simp at hy; rcases hy with rfl | rfl | rfl; exact hn; exact hm; exact hp) (by simp) (by
    intro i hi
    match i, hi with
    | 0, _ => exact c0
    | 1, _ => exact c1
    | 2, _ => exact c2)

theorem keep_set {W : World} {b k j : Nat} {u v : Value} {o p : Obj} (h : W.cell? ⟨b, j, none⟩ = some v) (hn : k ≠ j) (hb : b < W.heap.size) : (((W.setCell ⟨b, k, none⟩ u).alloc o).alloc p).drew.cell? ⟨b, j, none⟩ = some v := by
  have hne : (⟨b, k, none⟩ : Addr) ≠ ⟨b, j, none⟩ := by intro e; injection e with _ e _; exact hn e
  rw [World.cell?_drew, World.cell?_alloc_past _ _ _ (by simp; omega), World.cell?_alloc_past _ _ _ (by simpa using hb), World.cell?_setCell_other _ _ _ _ hne]
  exact h
/-- the sum at the end of a round, as the walk spells it -/
theorem next_int (x2 x7 x15 x16 : Nat) (l2 : x2 < 4294967296) (l15 : x15 < 4294967296) :
    IntKind.u32.wrap (IntKind.u32.wrap (IntKind.u32.wrap ((x16 : Int) + bits BinOp.xor IntKind.u32 ((Sha.mix x15 [7, 18] : Nat) : Int) ((x15 : Int) / 8)) + (x7 : Int)) + bits BinOp.xor IntKind.u32 ((Sha.mix x2 [17, 19] : Nat) : Int) ((x2 : Int) / 1024)) =
      ((Sha.nextv x16 x15 x7 x2 : Nat) : Int) := by
  unfold Sha.nextv
  rw [show (x15 : Int) / 8 = ((x15 / 8 : Nat) : Int) by simp, show (x2 : Int) / 1024 = ((x2 / 1024 : Nat) : Int) by simp]
  rw [u32_xor_nat _ _ (Sha.mix_lt _ l15 _) (by omega), u32_xor_nat _ _ (Sha.mix_lt _ l2 _) (by omega)]
  simp only [IntKind.wrap_u32']
  simp

theorem sched_zero (w : World) (bs : List Nat) : Sched w bs 0 (w.alloc (.cells (wv (Sha.schedN bs 0 ++ List.replicate 64 0)).toArray 204)) :=
  ⟨allocAt _ rfl, (Below.refl _ w).alloc (Nat.le_refl _) _⟩
theorem sched_cell {w wr : World} {bs : List Nat} {k : Nat} (h : Sched w bs k wr) (j : Nat) (hj : j < 64) (hk : k ≤ 64) : wr.cell? ⟨w.heap.size, j, none⟩ = some (.int .u32 ((Sha.schedN bs k).getD j 0 : Nat)) := by
  rw [cellOf h.1]
  have hl := Sha.schedN_length bs k
  simp only [wv, List.getElem?_toArray, List.getElem?_map, List.getD_eq_getElem?_getD]
  by_cases hjk : j < k
  · rw [List.getElem?_append_left (by omega), List.getElem?_eq_getElem (by omega)]; rfl
  · rw [List.getElem?_append_right (by omega), List.getElem?_replicate, if_pos (by omega), List.getElem?_eq_none (by omega)]; rfl
theorem sched_set {w wr : World} {bs : List Nat} {k : Nat} (h : Sched w bs k wr) (hk : k < 64) (x : Nat) (hx : Sha.schedN bs (k + 1) = Sha.schedN bs k ++ [x]) (W : World) (hW : Below wr.heap.size wr W) :
    Sched w bs (k + 1) (W.setCell ⟨w.heap.size, k, none⟩ (.int .u32 (x : Int))) := by
  have hlt := ltOf h.1
  refine ⟨?_, (h.2.trans (hW.mono (Nat.le_of_lt hlt))).setCell (Nat.le_refl _) _⟩
  have hh : W.heap[w.heap.size]? = some (.cells (wv (Sha.schedN bs k ++ List.replicate (64 - k) 0)).toArray 204 (0, 0)) := by rw [hW.block _ hlt]; exact h.1
  rw [setOf_ hh k _]
  congr 2
  have hl := Sha.schedN_length bs k
  rw [hx, show 64 - k = (64 - (k + 1)) + 1 by omega, List.replicate_succ]
  simp only [wv, List.setIfInBounds_toArray, List.map_append, List.map_cons, List.map_nil]
  rw [List.set_append_right _ _ (by simp [hl])]
  simp [hl]

theorem Sched.two {w wr : World} {bs : List Nat} {k : Nat} (h : Sched w bs k wr) (o p : Obj) : Sched w bs k ((wr.alloc o).alloc p).drew := by
  have hlt := ltOf h.1
  exact ⟨by rw [drewHeap, allocOld (by simp; omega), allocOld hlt]; exact h.1, ((h.2.alloc (Nat.le_of_lt hlt) _).alloc (by simp; omega) _).drew⟩
theorem below_setRow (w W : World) (cs : Array Value) : Below w.heap.size W (W.setRow w.heap.size cs) :=
  ⟨rfl, rfl, rfl, by rw [size_setRow]; exact Nat.le_refl _, fun k hk => setRow_other W w.heap.size k cs (by omega)⟩
theorem Tryz.size64 : (Tryz.prog.info? 204).map (·.size) = some 64 := by kernel_rfl

set_option maxRecDepth 100000 in
set_option maxHeartbeats 16000000 in
theorem schedule_any (bs : List Nat) (hb : Sha.bytes bs) (hl : bs.length = 64) (g off c : Nat) (w : World) (hg : g < w.heap.size) (hc : BytesAt w g off bs) :
    Calls Tryz.prog 133 #[.slice (some ⟨g, off, none⟩) 64 c] w fun e w' => e = .returned (.agg (wv (Sha.schedN bs 64)).toArray) ∧ Below w.heap.size w w' := by
  have HL := Lib.hid hl
  have HC : Hid (∀ (wr : World), Below w.heap.size w wr → ∀ i, i < 64 → wr.cell? ⟨g, off + i, none⟩ = some (.int .u8 (bs.getD i 0 : Nat))) :=
    Lib.hid fun wr hB i hi => (hB.cell (p := ⟨g, off + i, none⟩) hg).trans (hc i (by omega))
  have Z := Lib.hid (sched_zero w bs)
  clear hl hc
  go_enter Tryz.func133, Tryz.ntmps133
  go_wp2
  go_loopw [3, 7] (fun _ i wr => ∃ k : Nat, k ≤ 16 ∧ i = .int .i64 k ∧ Sched w bs k wr) (fun _ i _ => 16 - (intOf i).toNat)
  case atStart => exact ⟨0, by omega, rfl, Z.out⟩
  case round =>
    obtain ⟨k, hk, rfl, hS⟩ := hrel
    have HS := Lib.hid hS
    clear hS
    by_cases hlt : k < 16
    · have hd := (Sha.getD_byte hb)
      have c0 := HC.out wr HS.out.2 (4 * k) (by omega)
      have c1 := HC.out wr HS.out.2 (4 * k + 1) (by omega)
      have c2 := HC.out wr HS.out.2 (4 * k + 2) (by omega)
      have c3 := HC.out wr HS.out.2 (4 * k + 3) (by omega)
      have f0 : wr.frozen? ⟨w.heap.size, k, none⟩ = false := frozenOf HS.out.1 k
      have d0 : wr.cell? ⟨w.heap.size, k, none⟩ = some (.int .u32 ((Sha.schedN bs k).getD k 0 : Nat)) := sched_cell HS.out k (by omega) (by omega)
      have l0 := hd (4 * k)
      have l1 := hd (4 * k + 1)
      have l2 := hd (4 * k + 2)
      have l3 := hd (4 * k + 3)
      have N := Lib.hid (Sha.schedN_lo bs k hlt)
      unfold Sha.word at N
      generalize (Sha.schedN bs k).getD k 0 = d at *
      generalize bs.getD (4 * k) 0 = x0 at *
      generalize bs.getD (4 * k + 1) 0 = x1 at *
      generalize bs.getD (4 * k + 2) 0 = x2 at *
      generalize bs.getD (4 * k + 3) 0 = x3 at *
      clear hd
      have m0 : IntKind.i64.wrap (4 * (k : Int)) = 4 * (k : Int) := IntWalk.i64_in _ (by omega)
      have m1 : IntKind.i64.wrap (4 * (k : Int) + 1) = 4 * (k : Int) + 1 := IntWalk.i64_in _ (by omega)
      have m2 : IntKind.i64.wrap (4 * (k : Int) + 2) = 4 * (k : Int) + 2 := IntWalk.i64_in _ (by omega)
      have m3 : IntKind.i64.wrap (4 * (k : Int) + 3) = 4 * (k : Int) + 3 := IntWalk.i64_in _ (by omega)
      have t0 : (4 * (k : Int)).toNat = 4 * k := by omega
      have t1 : (4 * (k : Int) + 1).toNat = 4 * k + 1 := by omega
      have t2 : (4 * (k : Int) + 2).toNat = 4 * k + 2 := by omega
      have t3 : (4 * (k : Int) + 3).toNat = 4 * k + 3 := by omega
      have p0 : 0 ≤ 4 * (k : Int) := by omega
      have p1 : 0 ≤ 4 * (k : Int) + 1 := by omega
      have p2 : 0 ≤ 4 * (k : Int) + 2 := by omega
      have p3 : 0 ≤ 4 * (k : Int) + 3 := by omega
      have q0 : 4 * (k : Int) < 64 := by omega
      have q1 : 4 * (k : Int) + 1 < 64 := by omega
      have q2 : 4 * (k : Int) + 2 < 64 := by omega
      have q3 : 4 * (k : Int) + 3 < 64 := by omega
      have q4 : (k : Int) < 64 := by omega
      go_wp2
      go_still_tail 35, (by kernel_rfl)
      clear m0 m1 m2 m3 t0 t1 t2 t3
      rw [word_int x0 x1 x2 x3 l0 l1 l2 l3]
      change wpList _ _ _ _ _ wr.drew
      go_wp2
      go_roundw
      case rel => exact ⟨k + 1, by omega, by go_num, sched_set HS.out (by omega) _ N.out _ (Below.refl _ _).drew⟩
      case measure => simp [intOf]; omega
    · obtain rfl : k = 16 := by omega
      rw [show ((16 : Nat) : Int) = 16 from rfl]
      go_wp2
      go_loopw [4, 5, 6] (fun i _ _ wr => ∃ k : Nat, 16 ≤ k ∧ k ≤ 64 ∧ i = .int .i64 k ∧ Sched w bs k wr) (fun i _ _ _ => 64 - (intOf i).toNat)
      case atStart => exact ⟨16, by omega, by omega, rfl, HS.out⟩
      case round =>
        clear HS
        obtain ⟨k, hk0, hk, rfl, hS⟩ := hrel
        have HS := Lib.hid hS
        clear hS
        by_cases hlt2 : k < 64
        · have c2 := sched_cell HS.out (k - 2) (by omega) (by omega)
          have c7 := sched_cell HS.out (k - 7) (by omega) (by omega)
          have c15 := sched_cell HS.out (k - 15) (by omega) (by omega)
          have c16 := sched_cell HS.out (k - 16) (by omega) (by omega)
          have f0 : wr.frozen? ⟨w.heap.size, k, none⟩ = false := frozenOf HS.out.1 k
          have d0 := sched_cell HS.out k (by omega) (by omega)
          have hsm := Sha.getD_lt (Sha.sched_small hb k)
          have l2 := hsm (k - 2)
          have l15 := hsm (k - 15)
          have N := Lib.hid (Sha.schedN_hi bs k hk0)
          unfold Sha.next at N
          generalize (Sha.schedN bs k).getD k 0 = d at *
          generalize (Sha.schedN bs k).getD (k - 2) 0 = x2 at *
          generalize (Sha.schedN bs k).getD (k - 7) 0 = x7 at *
          generalize (Sha.schedN bs k).getD (k - 15) 0 = x15 at *
          generalize (Sha.schedN bs k).getD (k - 16) 0 = x16 at *
          clear hsm
          have N16 := Lib.hid (show k ≠ k - 16 by omega)
          have N7 := Lib.hid (show k ≠ k - 7 by omega)
          have m2 : IntKind.i64.wrap ((k : Int) - 2) = (k : Int) - 2 := IntWalk.i64_in _ (by omega)
          have m7 : IntKind.i64.wrap ((k : Int) - 7) = (k : Int) - 7 := IntWalk.i64_in _ (by omega)
          have m15 : IntKind.i64.wrap ((k : Int) - 15) = (k : Int) - 15 := IntWalk.i64_in _ (by omega)
          have m16 : IntKind.i64.wrap ((k : Int) - 16) = (k : Int) - 16 := IntWalk.i64_in _ (by omega)
          have t2 : ((k : Int) - 2).toNat = k - 2 := by omega
          have t7 : ((k : Int) - 7).toNat = k - 7 := by omega
          have t15 : ((k : Int) - 15).toNat = k - 15 := by omega
          have t16 : ((k : Int) - 16).toNat = k - 16 := by omega
          have p2 : 0 ≤ (k : Int) - 2 := by omega
          have p7 : 0 ≤ (k : Int) - 7 := by omega
          have p15 : 0 ≤ (k : Int) - 15 := by omega
          have p16 : 0 ≤ (k : Int) - 16 := by omega
          have q2 : (k : Int) - 2 < 64 := by omega
          have q7 : (k : Int) - 7 < 64 := by omega
          have q15 : (k : Int) - 15 < 64 := by omega
          have q16 : (k : Int) - 16 < 64 := by omega
          have q4 : (k : Int) < 64 := by omega
          have r2 : 2 ≤ (k : Int) := by omega
          have r7 : 7 ≤ (k : Int) := by omega
          have r15 : 15 ≤ (k : Int) := by omega
          have r16 : 16 ≤ (k : Int) := by omega
          go_wp2
          go_quiet (fail)
          have c7' : (wr.drewN nq).cell? ⟨w.heap.size, k - 7, none⟩ = some (.int .u32 (x7 : Nat)) := c7
          have c16' : (wr.drewN nq).cell? ⟨w.heap.size, k - 16, none⟩ = some (.int .u32 (x16 : Nat)) := c16
          have f0' : (wr.drewN nq).frozen? ⟨w.heap.size, k, none⟩ = false := f0
          have d0' : (wr.drewN nq).cell? ⟨w.heap.size, k, none⟩ = some (.int .u32 (d : Nat)) := d0
          have HS' : Hid (Sched w bs k (wr.drewN nq)) := Lib.hid ⟨HS.out.1, HS.out.2.os, HS.out.2.tape, HS.out.2.output, HS.out.2.size, HS.out.2.block⟩
          have z0 : w.heap.size < (wr.drewN nq).heap.size := ltOf HS.out.1
          clear c2 c7 c15 c16 f0 d0 HS
          generalize wr.drewN nq = W at *
          go_wp2
          go_region_held3 (fun w' => w'.cell? ⟨w.heap.size, k - 16, none⟩ = some (.int .u32 (x16 : Nat)) ∧ w'.cell? ⟨w.heap.size, k - 7, none⟩ = some (.int .u32 (x7 : Nat)))
            ((first | (with_reducible exact ⟨keep_set c16' N16.out z0, keep_set c7' N7.out z0⟩) | go_keep))
            (first
              | (go_at_call 134
                 with_reducible refine (mixed2_any x15 7 18 _ _ _ l15 (by decide) (by decide) ?_ ?_).mono ?_
                 · go_simp
                 · go_simp
                 rintro e w2 ⟨rfl, rfl⟩)
              | (go_at_call 134
                 with_reducible refine (mixed2_any x2 17 19 _ _ _ l2 (by decide) (by decide) ?_ ?_).mono ?_
                 · go_simp
                 · go_simp
                 rintro e w2 ⟨rfl, rfl⟩))
          all_goals clear m2 m7 m15 m16 t2 t7 t15 t16
          all_goals rw [next_int x2 x7 x15 x16 l2 l15]
          all_goals
            go_wp2
            go_roundw
            case rel => exact ⟨k + 1, by omega, by omega, by go_num, (sched_set HS'.out hlt2 _ N.out _ (Below.refl _ _)).two _ _⟩
            case measure => simp [intOf]; omega
        · obtain rfl : k = 64 := by omega
          have hR := HS.out.1
          rw [show 64 - 64 = 0 from rfl, List.replicate_zero, List.append_nil] at hR
          have hsz : (wv (Sha.schedN bs 64)).toArray.size = 64 := by simp [wv, Sha.schedN_length]
          have h1 : (wv (Sha.schedN bs 64)).toArray.all (·.oneCell') = true := by simp [wv, Value.oneCell']
          have hi := Tryz.size64
          rw [← hsz] at hi
          have HB := Lib.hid HS.out.2
          clear HS
          obtain ⟨cs, hcs⟩ : ∃ cs, (wv (Sha.schedN bs 64)).toArray = cs := ⟨_, rfl⟩
          rw [hcs] at hR hi h1
          have HCS := Lib.hid hcs
          have R := Lib.hid hR
          have HI := Lib.hid hi
          have H1 := Lib.hid h1
          clear hR hi h1 hsz hcs
          go_wp2_with (first | (refine wpList_load_row rfl 204 (.tmp 2) rfl w.heap.size rfl 204 cs (0, 0) _ R.out Tryz.underlying204 rfl HI.out ?_) | (refine wpList_store_row rfl 204 (.tmp 2) (.tmp 83) rfl w.heap.size cs rfl rfl 204 cs R.out HI.out rfl H1.out ?_))
          refine bodyPost_ret (v := .agg cs) (results_cell_row rfl _ _ w.heap.size 204 cs (0, 0) _ rfl (setRow_heap _ _ _ _ _ _ R.out) Tryz.underlying204 rfl HI.out) rfl ?_
          exact ⟨by rw [HCS.out], HB.out.trans (below_setRow _ _ _)⟩
end Go.Proofs.YthlmgookaljgnaaGreatDoor
namespace Go.Proofs.YthlmgookaljgnaaGreatDoor
open Go.RowKit
set_option linter.unusedVariables false

/-- The table of the package: a variable that holds the sixty-four words. -/
def RoundLaid (w : World) : Prop := ∃ x : TypeId × (Nat × Nat), w.heap[3]? = some (.cells (wv Sha.K).toArray x.1 x.2)
theorem RoundLaid.below {w w' : World} (h : RoundLaid w) (hb : Below w.heap.size w w') : RoundLaid w' := by
  obtain ⟨fr, h⟩ := h; exact ⟨fr, by rw [hb.block _ (ltOf h)]; exact h⟩
theorem RoundLaid.upd {w w' : World} {S : Nat → Prop} (h : RoundLaid w) (hb : Upd S w w') (hS : ¬ S 3) : RoundLaid w' := by
  obtain ⟨fr, h⟩ := h; exact ⟨fr, hb.at h hS⟩

theorem run_index_agg {P : Program} {T E : TypeId} {n : Nat} (hT : P.underlying T = some (.array n E)) (k0 : IntKind) (hE : P.underlying E = some (.int k0)) (hs : (P.info? E).map (·.size) = some 1) (cs : Array Value) (k : Nat) (hk : k < n) (v : Value) (hv : cs[k]? = some v) (w : World) :
    (Instr.index T (.agg cs) (.int .i64 (k : Int))).run P w = .ok v w := by
  obtain ⟨i, hi, hi2⟩ := Option.map_eq_some_iff.1 hs
  have h2 : (k : Int) < n := by omega
  simp [Instr.index, asIntOf, run_underlying hT, run_underlying hE, sizeOf, typeInfo, hi, hi2, part, isAgg, hv, hk]

/-- A new variable that is given a row at once. -/
theorem new_row (W : World) (Z cs : Array Value) (T : TypeId) : ((W.alloc (.cells Z T)).setRow W.heap.size cs).heap[W.heap.size]? = some (.cells cs T (0, 0)) ∧ ((W.alloc (.cells Z T)).setRow W.heap.size cs).heap.size = W.heap.size + 1 ∧
    Below W.heap.size W ((W.alloc (.cells Z T)).setRow W.heap.size cs) :=
  ⟨setRow_heap _ _ Z _ T (0, 0) (allocAt _ rfl), by rw [size_setRow]; simp, ((Below.refl _ W).alloc (Nat.le_refl _) _).trans (by have := below_setRow W (W.alloc (.cells Z T)) cs; exact this)⟩

/-- Between two rounds. -/
structure AddS (w : World) (bw bv : Nat) (S V : List Nat) (wr : World) : Prop where
  hw : wr.heap[bw]? = some (.cells (wv S).toArray 204 (0, 0))
  hv : wr.heap[bv]? = some (.cells (wv V).toArray 177 (0, 0))
  below : Below w.heap.size w wr
  lw : w.heap.size ≤ bw
  lv : w.heap.size ≤ bv
  ne : bw ≠ bv
  len : V.length = 8
  lenS : S.length = 64
  small : Sha.small V
  smallS : Sha.small S
theorem AddS.cell {w wr : World} {bw bv : Nat} {S V : List Nat} (h : AddS w bw bv S V wr) (j : Nat) (hj : j < 8) : wr.cell? ⟨bv, j, none⟩ = some (.int .u32 (V.getD j 0 : Nat)) := by
  rw [cellOf h.hv]
  simp only [wv, List.getElem?_toArray, List.getElem?_map, List.getD_eq_getElem?_getD]
  rw [List.getElem?_eq_getElem (by have := h.len; omega)]; rfl
theorem AddS.cellW {w wr : World} {bw bv : Nat} {S V : List Nat} (h : AddS w bw bv S V wr) (j : Nat) (hj : j < 64) : wr.cell? ⟨bw, j, none⟩ = some (.int .u32 (S.getD j 0 : Nat)) := by
  rw [cellOf h.hw]
  simp only [wv, List.getElem?_toArray, List.getElem?_map, List.getD_eq_getElem?_getD]
  rw [List.getElem?_eq_getElem (by have := h.lenS; omega)]; rfl
theorem AddS.alloc {w wr : World} {bw bv : Nat} {S V : List Nat} (h : AddS w bw bv S V wr) (o : Obj) : AddS w bw bv S V (wr.alloc o) :=
  { h with hw := by rw [allocOld (ltOf h.hw)]; exact h.hw, hv := by rw [allocOld (ltOf h.hv)]; exact h.hv, below := h.below.alloc h.below.size _ }
theorem AddS.drewN {w wr : World} {bw bv : Nat} {S V : List Nat} (h : AddS w bw bv S V wr) (n : Nat) : AddS w bw bv S V (wr.drewN n) :=
  { h with below := ⟨h.below.os, h.below.tape, h.below.output, h.below.size, h.below.block⟩ }
theorem AddS.drew {w wr : World} {bw bv : Nat} {S V : List Nat} (h : AddS w bw bv S V wr) : AddS w bw bv S V wr.drew :=
  { h with below := ⟨h.below.os, h.below.tape, h.below.output, h.below.size, h.below.block⟩ }

theorem len8 {V : List Nat} (h : V.length = 8) : ∃ a b c d e f g i, V = [a, b, c, d, e, f, g, i] := by
  match V, h with
  | [a, b, c, d, e, f, g, i], _ => exact ⟨a, b, c, d, e, f, g, i, rfl⟩

theorem Tryz.sz82 : (Tryz.prog.info? 156).map (·.size) = some 1 := by kernel_rfl
theorem Tryz.size8 : (Tryz.prog.info? 177).map (·.size) = some 8 := by kernel_rfl

theorem AddS.moved {w wr W8 : World} {bw bv : Nat} {S : List Nat} {v0 v1 v2 v3 v4 v5 v6 v7 : Nat} (h : AddS w bw bv S [v0, v1, v2, v3, v4, v5, v6, v7] wr) (hlt : bw < bv)
    (h8 : W8.heap[bv]? = some (.cells (splice (wv [v0, v1, v2, v3, v4, v5, v6, v7]) 1 (wv [v0, v1, v2, v3, v4, v5, v6])).toArray 177 (0, 0))) (hB : Below bv wr W8) : AddS w bw bv S [v0, v0, v1, v2, v3, v4, v5, v6] W8 :=
  ⟨by rw [hB.block _ hlt]; exact h.hw, h8, h.below.trans (hB.mono h.lv), h.lw, h.lv, h.ne, rfl, h.lenS, by
    intro x hx
    have hs := h.small
    unfold Sha.small at hs
    simp only [List.mem_cons, List.not_mem_nil, or_false] at hx hs
    exact hs x (by omega), h.smallS⟩
theorem AddS.stored {w wr : World} {bw bv : Nat} {S V' : List Nat} {v0 v1 v2 v3 v4 v5 v6 t u : Nat} (h : AddS w bw bv S [v0, v0, v1, v2, v3, v4, v5, v6] wr) (hV : V' = [(t + u) % 4294967296, v0, v1, v2, (v3 + t) % 4294967296, v4, v5, v6]) :
    AddS w bw bv S V' ((wr.setCell ⟨bv, 0, none⟩ (.int .u32 (((t : Int) + (u : Int)) % 4294967296))).setCell ⟨bv, 4, none⟩ (.int .u32 (((v3 : Int) + (t : Int)) % 4294967296))) := by
  subst hV
  refine { h with hw := ?_, hv := ?_, below := (h.below.setCell h.lv _).setCell h.lv _, len := rfl, small := ?_ }
  · rw [setNe h.ne, setNe h.ne]; exact h.hw
  · rw [setOf_ (setOf_ h.hv 0 _) 4 _]
    simp [wv]
  · intro x hx
    have hs := h.small
    unfold Sha.small at hs
    simp only [List.mem_cons, List.not_mem_nil, or_false] at hx hs
    rcases hx with rfl | rfl | rfl | rfl | rfl | rfl | rfl | rfl
    all_goals first | exact Nat.mod_lt _ (by decide) | exact hs _ (by simp)

/-- The words are added one after the other. -/
structure AddE (w : World) (gh bv : Nat) (H V : List Nat) (k : Nat) (wr : World) : Prop where
  hh : wr.heap[gh]? = some (.cells (wv ((Sha.addV H V).take k ++ H.drop k)).toArray 177 (0, 0))
  hv : wr.heap[bv]? = some (.cells (wv V).toArray 177 (0, 0))
  upd : Upd (· = gh) w wr
  lt : gh < w.heap.size
  lv : w.heap.size ≤ bv
  lenH : H.length = 8
  lenV : V.length = 8
theorem AddE.cellH {w wr : World} {gh bv : Nat} {H V : List Nat} {k : Nat} (h : AddE w gh bv H V k wr) (hk : k < 8) : wr.cell? ⟨gh, k, none⟩ = some (.int .u32 (H.getD k 0 : Nat)) := by
  rw [cellOf h.hh]
  have hl : ((Sha.addV H V).take k).length = k := by simp [Sha.addV, h.lenH, h.lenV]; omega
  simp only [wv, List.getElem?_toArray, List.getElem?_map, List.getD_eq_getElem?_getD]
  rw [List.getElem?_append_right (by omega), hl, Nat.sub_self, List.getElem?_drop, Nat.add_zero, List.getElem?_eq_getElem (by have := h.lenH; omega)]
  rfl
theorem AddE.cellV {w wr : World} {gh bv : Nat} {H V : List Nat} {k : Nat} (h : AddE w gh bv H V k wr) (j : Nat) (hj : j < 8) : wr.cell? ⟨bv, j, none⟩ = some (.int .u32 (V.getD j 0 : Nat)) := by
  rw [cellOf h.hv]
  simp only [wv, List.getElem?_toArray, List.getElem?_map, List.getD_eq_getElem?_getD]
  rw [List.getElem?_eq_getElem (by have := h.lenV; omega)]; rfl
theorem AddE.step {w wr : World} {gh bv : Nat} {H V : List Nat} {k : Nat} (h : AddE w gh bv H V k wr) (hk : k < 8) :
    AddE w gh bv H V (k + 1) (wr.setCell ⟨gh, k, none⟩ (.int .u32 (((H.getD k 0 : Nat) + (V.getD k 0 : Nat) : Int) % 4294967296))).drew := by
  have hlt := h.lt
  have hlv := h.lv
  refine ⟨?_, ?_, (h.upd.setCell _ _ (.inl rfl)).drew, h.lt, h.lv, h.lenH, h.lenV⟩
  · rw [drewHeap, setOf_ h.hh k _]
    congr 2
    have hA : (Sha.addV H V).length = 8 := by simp [Sha.addV, h.lenH, h.lenV]
    have hl : ((Sha.addV H V).take k).length = k := by rw [List.length_take]; omega
    have hx : (Sha.addV H V)[k]'(by omega) = (H.getD k 0 + V.getD k 0) % 4294967296 := by
      simp only [Sha.addV, List.getElem_zipWith, List.getD_eq_getElem?_getD]
      rw [List.getElem?_eq_getElem (by have := h.lenH; omega), List.getElem?_eq_getElem (by have := h.lenV; omega)]; rfl
    rw [List.take_succ_eq_append_getElem (by omega), hx, List.drop_eq_getElem_cons (show k < H.length by have := h.lenH; omega)]
    simp only [wv, List.setIfInBounds_toArray, List.map_append, List.map_cons, List.map_nil]
    rw [List.set_append_right _ _ (by simp [hA]; omega)]
    simp [hA, show min k 8 = k by omega]
  · rw [drewHeap, setNe (by omega)]; exact h.hv
theorem AddE.all {w wr : World} {gh bv : Nat} {H V : List Nat} (h : AddE w gh bv H V 8 wr) : (Sha.addV H V).take 8 ++ H.drop 8 = Sha.addV H V := by
  rw [List.take_of_length_le (by simp [Sha.addV, h.lenH, h.lenV]), List.drop_of_length_le (by have := h.lenH; omega), List.append_nil]

theorem rd_eq (k w v0 v1 v2 v3 v4 v5 v6 v7 : Nat) : Sha.rd k w [v0, v1, v2, v3, v4, v5, v6, v7] = [(Sha.tval v4 v5 v6 v7 k w + Sha.uval v0 v1 v2) % 4294967296, v0, v1, v2, (v3 + Sha.tval v4 v5 v6 v7 k w) % 4294967296, v4, v5, v6] := rfl
theorem t_int (e f g h k x : Nat) (le : e < 4294967296) (lf : f < 4294967296) (lg : g < 4294967296) (lh : h < 4294967296) :
    IntKind.u32.wrap (IntKind.u32.wrap (IntKind.u32.wrap (IntKind.u32.wrap ((h : Int) + ((Sha.mix e [6, 11, 25] : Nat) : Int)) + bits BinOp.xor IntKind.u32 (bits BinOp.and IntKind.u32 (e : Int) (f : Int)) (bits BinOp.and IntKind.u32 (bits BinOp.xor IntKind.u32 IntKind.u32.max (e : Int)) (g : Int))) + (k : Int)) + (x : Int)) =
      ((Sha.tval e f g h k x : Nat) : Int) := by
  have hmax : IntKind.u32.max = ((4294967295 : Nat) : Int) := by decide
  have hnot : 4294967295 ^^^ e = 4294967295 - e := by
    have h1 := BitVec.toNat_not (x := BitVec.ofNat 32 e)
    rw [BitVec.not_def, BitVec.toNat_xor, BitVec.toNat_ofNat, Nat.mod_eq_of_lt (show e < 2 ^ 32 by omega)] at h1
    exact h1
  rw [hmax, u32_xor_nat _ _ (by omega) le, hnot, u32_and_nat _ _ le lf, u32_and_nat _ _ (by omega) lg, u32_xor_nat _ _ (Nat.and_lt_two_pow (n := 32) _ lf) (Nat.and_lt_two_pow (n := 32) _ lg)]
  unfold Sha.tval
  simp only [IntKind.wrap_u32']
  omega
theorem u_int (a b c : Nat) (la : a < 4294967296) (lb : b < 4294967296) (lc : c < 4294967296) :
    IntKind.u32.wrap (((Sha.mix a [2, 13, 22] : Nat) : Int) + bits BinOp.xor IntKind.u32 (bits BinOp.xor IntKind.u32 (bits BinOp.and IntKind.u32 (a : Int) (b : Int)) (bits BinOp.and IntKind.u32 (a : Int) (c : Int))) (bits BinOp.and IntKind.u32 (b : Int) (c : Int))) =
      ((Sha.uval a b c : Nat) : Int) := by
  have hx := Nat.xor_lt_two_pow (n := 32) (Nat.and_lt_two_pow (n := 32) a lb) (Nat.and_lt_two_pow (n := 32) a lc)
  rw [u32_and_nat _ _ la lb, u32_and_nat _ _ la lc, u32_and_nat _ _ lb lc, u32_xor_nat _ _ (Nat.and_lt_two_pow (n := 32) _ lb) (Nat.and_lt_two_pow (n := 32) _ lc), u32_xor_nat _ _ hx (Nat.and_lt_two_pow (n := 32) _ lc)]
  unfold Sha.uval
  simp only [IntKind.wrap_u32']
  omega
theorem seven {W : World} {b v0 v1 v2 v3 v4 v5 v6 : Nat} (d0 : W.cell? ⟨b, 0, none⟩ = some (.int .u32 (v0 : Nat))) (d1 : W.cell? ⟨b, 1, none⟩ = some (.int .u32 (v1 : Nat))) (d2 : W.cell? ⟨b, 2, none⟩ = some (.int .u32 (v2 : Nat))) (d3 : W.cell? ⟨b, 3, none⟩ = some (.int .u32 (v3 : Nat)))
    (d4 : W.cell? ⟨b, 4, none⟩ = some (.int .u32 (v4 : Nat))) (d5 : W.cell? ⟨b, 5, none⟩ = some (.int .u32 (v5 : Nat))) (d6 : W.cell? ⟨b, 6, none⟩ = some (.int .u32 (v6 : Nat))) :
    ∀ j v, (wv [v0, v1, v2, v3, v4, v5, v6])[j]? = some v → W.cell? ((⟨b, 0, none⟩ : Addr).add j) = some v := by
  intro j v hj
  have ha : (⟨b, 0, none⟩ : Addr).add j = ⟨b, j, none⟩ := by unfold Addr.add; split <;> simp_all
  rw [ha]
  match j, hj with
  | 0, hj => injection hj with hj; subst hj; exact d0
  | 1, hj => injection hj with hj; subst hj; exact d1
  | 2, hj => injection hj with hj; subst hj; exact d2
  | 3, hj => injection hj with hj; subst hj; exact d3
  | 4, hj => injection hj with hj; subst hj; exact d4
  | 5, hj => injection hj with hj; subst hj; exact d5
  | 6, hj => injection hj with hj; subst hj; exact d6
  | j + 7, hj => simp [wv] at hj

set_option maxRecDepth 100000 in
set_option maxHeartbeats 4000000 in
theorem add_any (H : List Nat) (hH : H.length = 8) (hHs : Sha.small H) (gh : Nat) (bs : List Nat) (hb : Sha.bytes bs) (hl : bs.length = 64) (g off c : Nat) (w : World) (hg : g < w.heap.size) (hc : BytesAt w g off bs)
    (hh : w.heap[gh]? = some (.cells (wv H).toArray 177 (0, 0))) (hR : RoundLaid w) :
    Calls Tryz.prog 111 #[.pointer (some ⟨gh, 0, none⟩), .slice (some ⟨g, off, none⟩) 64 c] w fun e w' => e = .returned (.tuple #[]) ∧
      w'.heap[gh]? = some (.cells (wv (Sha.blk H bs)).toArray 177 (0, 0)) ∧ Upd (· = gh) w w' := by
  have HLEN := Lib.hid hH
  have HG := Lib.hid (ltOf hh)
  have HHH := Lib.hid hh
  have SC := Lib.hid (schedule_any bs hb hl g off c w hg hc)
  go_enter Tryz.func111, Tryz.ntmps111
  go_wp2_with fail
  refine SC.out.mono ?_
  rintro e W1 ⟨rfl, hB1⟩
  have HB := Lib.hid hB1
  have hgh : W1.heap[gh]? = some (.cells (wv H).toArray 177 (0, 0)) := by rw [hB1.block _ (ltOf hh)]; exact hh
  have hR1 := hR.below hB1
  obtain ⟨fr, hr⟩ := hR1
  have hltg := ltOf hgh
  have hltr := ltOf hr
  have hS : ∃ cs, (wv (Sha.schedN bs 64)).toArray = cs ∧ cs.size = 64 ∧ cs.all (·.oneCell') = true := ⟨_, rfl, by simp [wv, Sha.schedN_length], by simp [wv, Value.oneCell']⟩
  obtain ⟨cs, hcs, hsz, hone⟩ := hS
  rw [hcs]
  have hV : ∃ vs, (wv H).toArray = vs ∧ vs.size = 8 ∧ vs.all (·.oneCell') = true := ⟨_, rfl, by simp [wv, hH], by simp [wv, Value.oneCell']⟩
  obtain ⟨vs, hvs, hsv, honev⟩ := hV
  rw [hvs] at hgh
  have hK : ∃ ks, (wv Sha.K).toArray = ks ∧ ks.size = 64 := ⟨_, rfl, by simp [wv, Sha.K_length]⟩
  obtain ⟨ks, hks, hsk⟩ := hK
  rw [hks] at hr
  have i1 : (Tryz.prog.info? 204).map (·.size) = some cs.size := by rw [hsz]; exact Tryz.size64
  have i2 : (Tryz.prog.info? 177).map (·.size) = some vs.size := by rw [hsv]; exact Tryz.size8
  have i3 : (Tryz.prog.info? 204).map (·.size) = some ks.size := by rw [hsk]; exact Tryz.size64
  have I1 := Lib.hid i1
  have I2 := Lib.hid i2
  have I3 := Lib.hid i3
  have R1 := Lib.hid hr
  have G1 := Lib.hid hgh
  have O1 := Lib.hid hone
  have O2 := Lib.hid honev
  have S1 := Lib.hid hsz
  have S2 := Lib.hid hsv
  have E1 := Lib.hid hcs
  have E2 := Lib.hid hvs
  have E3 := Lib.hid hks
  clear hB1 hc hh hR hr hgh hone honev hsz hsv hcs hvs hks i1 i2 i3 hsk hH
  go_wp2_with (first
    | (refine wpList_store_row rfl 204 (.tmp 4) (.tmp 14) rfl W1.heap.size cs rfl rfl 204 _ (allocAt _ rfl) I1.out (by rw [S1.out]; rfl) O1.out ?_
       have N := new_row W1 (Array.replicate 64 (.int .u32 0)) cs 204
       generalize hW2 : World.setRow _ _ _ = W2
       change World.setRow (W1.alloc (.cells (Array.replicate 64 (.int .u32 0)) 204)) _ _ = W2 at hW2
       rw [hW2] at N
       obtain ⟨n1, n2, n3⟩ := N
       have g2 : W2.heap[gh]? = some (.cells vs 177 (0, 0)) := by rw [n3.block _ hltg]; exact G1.out
       have r2 : W2.heap[3]? = some (.cells ks fr.1 fr.2) := by rw [n3.block _ hltr]; exact R1.out
       have M1 := Lib.hid n1
       have M2 := Lib.hid n2
       have M3 := Lib.hid n3
       have G2 := Lib.hid g2
       have R2 := Lib.hid r2
       have lt2 : gh < W2.heap.size := ltOf g2
       clear hW2 n1 n2 n3 g2 r2)
    | (refine wpList_load_row rfl 177 (.tmp 16) rfl gh rfl 177 vs (0, 0) _ G2.out Tryz.underlying177 rfl I2.out ?_)
    | (refine wpList_store_row rfl 177 (.tmp 5) (.tmp 17) rfl W2.heap.size vs rfl rfl 177 _ (allocAt _ rfl) I2.out (by rw [S2.out]; rfl) O2.out ?_
       have N := new_row W2 (Array.replicate 8 (.int .u32 0)) vs 177
       generalize hW3 : World.setRow _ _ _ = W3
       change World.setRow (W2.alloc (.cells (Array.replicate 8 (.int .u32 0)) 177)) _ _ = W3 at hW3
       rw [hW3] at N
       obtain ⟨n1, n2, n3⟩ := N
       have r3 : W3.heap[3]? = some (.cells ks fr.1 fr.2) := by rw [n3.block _ (ltOf R2.out)]; exact R2.out
       have L1 := Lib.hid n1
       have L2 := Lib.hid n2
       have L3 := Lib.hid n3
       have R3 := Lib.hid r3
       clear hW3 n1 n2 n3 r3)
    | (refine wpList_load_row rfl 204 (.global 3) rfl 3 rfl fr.1 ks fr.2 _ R3.out Tryz.underlying204 rfl I3.out ?_))
  have A0 : AddS w W1.heap.size W2.heap.size (Sha.schedN bs 64) (Sha.rounds (Sha.schedN bs 64) H 0) W3 := by
    have h1 := M1.out
    have h2 := L1.out
    have h3 := M3.out
    have h4 := L3.out
    have h5 := HB.out
    have z1 := h3.size
    have z2 := h5.size
    have z3 := ltOf h1
    exact ⟨by rw [h4.block _ z3, h1, E1.out], by rw [h2, ← E2.out]; rfl, (h5.trans (h3.mono z2)).trans (h4.mono (by omega)), z2, by omega, by omega, HLEN.out, Sha.schedN_length _ _, hHs, Sha.sched_small hb _⟩
  have A00 := Lib.hid A0
  clear A0
  go_loopw [6, 7, 8, 9, 10, 11, 19] (fun _ _ _ _ _ _ i wr => ∃ k : Nat, k ≤ 64 ∧ i = .int .i64 k ∧ AddS w W1.heap.size W2.heap.size (Sha.schedN bs 64) (Sha.rounds (Sha.schedN bs 64) H k) wr) (fun _ _ _ _ _ _ i _ => 64 - (intOf i).toNat)
  case atStart => exact ⟨0, by omega, rfl, A00.out⟩
  case round =>
    obtain ⟨k, hk, rfl, hA⟩ := hrel
    have HA := Lib.hid hA
    clear hA
    by_cases hlt : k < 64
    · have hix : ∀ W, (Instr.index 204 (.agg ks) (.int .i64 (k : Int))).run Tryz.prog W = .ok (.int .u32 (Sha.K.getD k 0 : Nat)) W := fun W =>
        run_index_agg Tryz.underlying204 .u32 Tryz.underlying156 Tryz.sz82 ks k hlt _ (by rw [← E3.out]; simp [wv, List.getD_eq_getElem?_getD, List.getElem?_eq_getElem (show k < Sha.K.length from hlt)]) W
      have cw := HA.out.cellW k hlt
      have lw := Sha.getD_lt HA.out.smallS k
      have N : Hid (Sha.rounds (Sha.schedN bs 64) H (k + 1) = Sha.rd (Sha.K.getD k 0) ((Sha.schedN bs 64).getD k 0) (Sha.rounds (Sha.schedN bs 64) H k)) := Lib.hid rfl
      have lk : Sha.K.getD k 0 < 4294967296 := Sha.getD_lt Sha.K_lt k
      obtain ⟨v0, v1, v2, v3, v4, v5, v6, v7, hV⟩ := len8 HA.out.len
      rw [hV] at HA N
      clear hV
      have c0 : wr.cell? ⟨W2.heap.size, 0, none⟩ = some (.int .u32 (v0 : Nat)) := HA.out.cell 0 (by omega)
      have c1 : wr.cell? ⟨W2.heap.size, 1, none⟩ = some (.int .u32 (v1 : Nat)) := HA.out.cell 1 (by omega)
      have c2 : wr.cell? ⟨W2.heap.size, 2, none⟩ = some (.int .u32 (v2 : Nat)) := HA.out.cell 2 (by omega)
      have c4 : wr.cell? ⟨W2.heap.size, 4, none⟩ = some (.int .u32 (v4 : Nat)) := HA.out.cell 4 (by omega)
      have c5 : wr.cell? ⟨W2.heap.size, 5, none⟩ = some (.int .u32 (v5 : Nat)) := HA.out.cell 5 (by omega)
      have c6 : wr.cell? ⟨W2.heap.size, 6, none⟩ = some (.int .u32 (v6 : Nat)) := HA.out.cell 6 (by omega)
      have c7 : wr.cell? ⟨W2.heap.size, 7, none⟩ = some (.int .u32 (v7 : Nat)) := HA.out.cell 7 (by omega)
      have hsm : ∀ x ∈ [v0, v1, v2, v3, v4, v5, v6, v7], x < 4294967296 := HA.out.small
      have l0 := hsm v0 (by simp)
      have l1 := hsm v1 (by simp)
      have l2 := hsm v2 (by simp)
      have l4 := hsm v4 (by simp)
      have l5 := hsm v5 (by simp)
      have l6 := hsm v6 (by simp)
      have l7 := hsm v7 (by simp)
      have q0 : (k : Int) < 64 := by omega
      clear hsm
      generalize (Sha.schedN bs 64).getD k 0 = x at *
      generalize Sha.K.getD k 0 = kk at *
      go_wp2
      go_quiet (fail)
      have HA2 := Lib.hid (HA.out.drewN nq)
      replace c1 : (wr.drewN nq).cell? ⟨W2.heap.size, 1, none⟩ = some (.int .u32 (v1 : Nat)) := c1
      replace c2 : (wr.drewN nq).cell? ⟨W2.heap.size, 2, none⟩ = some (.int .u32 (v2 : Nat)) := c2
      replace c5 : (wr.drewN nq).cell? ⟨W2.heap.size, 5, none⟩ = some (.int .u32 (v5 : Nat)) := c5
      replace c6 : (wr.drewN nq).cell? ⟨W2.heap.size, 6, none⟩ = some (.int .u32 (v6 : Nat)) := c6
      replace c7 : (wr.drewN nq).cell? ⟨W2.heap.size, 7, none⟩ = some (.int .u32 (v7 : Nat)) := c7
      replace cw : (wr.drewN nq).cell? ⟨W1.heap.size, k, none⟩ = some (.int .u32 (x : Nat)) := cw
      clear HA c0 c4
      generalize wr.drewN nq = W4 at *
      go_wp2
      go_region_held3 (fun w' => w'.cell? ⟨W2.heap.size, 5, none⟩ = some (.int .u32 (v5 : Nat)) ∧ w'.cell? ⟨W2.heap.size, 6, none⟩ = some (.int .u32 (v6 : Nat)) ∧ w'.cell? ⟨W2.heap.size, 7, none⟩ = some (.int .u32 (v7 : Nat)) ∧ w'.cell? ⟨W1.heap.size, k, none⟩ = some (.int .u32 (x : Nat)))
        ((first | go_keep))
        (first
          | (go_at_call 134
             with_reducible refine (mixed3_any v4 6 11 25 _ _ _ l4 (by decide) (by decide) (by decide) ?_ ?_ ?_).mono ?_
             · go_simp
             · go_simp
             · go_simp
             rintro e w2 ⟨rfl, rfl⟩))
      rw [t_int v4 v5 v6 v7 kk x l4 l5 l6 l7]
      have HA3 := Lib.hid ((HA2.out.alloc (.cells #[.int .i64 6, .int .i64 11, .int .i64 25] 3)).drew)
      have lt : Sha.tval v4 v5 v6 v7 kk x < 4294967296 := Sha.tval_lt _ _ _ _ _ _
      rw [rd_eq] at N
      generalize Sha.tval v4 v5 v6 v7 kk x = t at *
      clear HA2 c1 c2 c5 c6 c7 cw
      generalize (W4.alloc _).drew = W5 at *
      have c1 : W5.cell? ⟨W2.heap.size, 1, none⟩ = some (.int .u32 (v1 : Nat)) := HA3.out.cell 1 (by omega)
      have c2 : W5.cell? ⟨W2.heap.size, 2, none⟩ = some (.int .u32 (v2 : Nat)) := HA3.out.cell 2 (by omega)
      go_wp2
      go_region_held3 (fun w' => w'.cell? ⟨W2.heap.size, 1, none⟩ = some (.int .u32 (v1 : Nat)) ∧ w'.cell? ⟨W2.heap.size, 2, none⟩ = some (.int .u32 (v2 : Nat)))
        ((first | go_keep))
        (first
          | (go_at_call 134
             with_reducible refine (mixed3_any v0 2 13 22 _ _ _ l0 (by decide) (by decide) (by decide) ?_ ?_ ?_).mono ?_
             · go_simp
             · go_simp
             · go_simp
             rintro e w2 ⟨rfl, rfl⟩))
      rw [u_int v0 v1 v2 l0 l1 l2]
      have HA4 := Lib.hid ((HA3.out.alloc (.cells #[.int .i64 2, .int .i64 13, .int .i64 22] 3)).drew)
      have lu : Sha.uval v0 v1 v2 < 4294967296 := Sha.uval_lt _ _ _
      generalize Sha.uval v0 v1 v2 = u at *
      clear HA3 c1 c2
      generalize (W5.alloc _).drew = W6 at *
      go_wp2
      go_still_tail 2, (by kernel_rfl)
      change wpList _ _ _ _ _ W6.drew
      have HA5 := Lib.hid HA4.out.drew
      clear HA4
      generalize W6.drew = W7 at *
      have d0 := HA5.out.cell 0 (by omega)
      have d1 := HA5.out.cell 1 (by omega)
      have d2 := HA5.out.cell 2 (by omega)
      have d3 := HA5.out.cell 3 (by omega)
      have d4 := HA5.out.cell 4 (by omega)
      have d5 := HA5.out.cell 5 (by omega)
      have d6 := HA5.out.cell 6 (by omega)
      have D : Hid (∀ j v, (wv [v0, v1, v2, v3, v4, v5, v6])[j]? = some v → W7.cell? ((⟨W2.heap.size, 0, none⟩ : Addr).add j) = some v) := Lib.hid (seven d0 d1 d2 d3 d4 d5 d6)
      clear d0 d1 d2 d3 d4 d5 d6
      refine wpList_copy_splice rfl (.tmp 69) (.tmp 70) 157 157 rfl 156 Tryz.underlying157 Tryz.sz82 (some ⟨W2.heap.size, 1, none⟩) (some ⟨W2.heap.size, 0, none⟩) 7 7 7 8 rfl rfl W2.heap.size 1 _ 177 HA5.out.hv (wv [v0, v1, v2, v3, v4, v5, v6]) rfl (fun _ => ⟨rfl, _, rfl, D.out⟩) (by simp [wv]) (by simp [wv, Value.oneCell']) W2.heap.size W7 (Below.refl _ _) (Nat.le_refl _) ?_
      intro W8 hW8 hB8
      have HA6 : Hid (AddS w W1.heap.size W2.heap.size (Sha.schedN bs 64) [v0, v0, v1, v2, v3, v4, v5, v6] W8) := Lib.hid (HA5.out.moved (by have := M2.out; omega) hW8.out hB8)
      clear HA5 D hW8 hB8
      have c4 : W8.cell? ⟨W2.heap.size, 4, none⟩ = some (.int .u32 (v3 : Nat)) := HA6.out.cell 4 (by omega)
      have c0 : W8.cell? ⟨W2.heap.size, 0, none⟩ = some (.int .u32 (v0 : Nat)) := HA6.out.cell 0 (by omega)
      have f0 : W8.frozen? ⟨W2.heap.size, 0, none⟩ = false := frozenOf HA6.out.hv 0
      have f4 : W8.frozen? ⟨W2.heap.size, 4, none⟩ = false := frozenOf HA6.out.hv 4
      go_wp2
      go_roundw
      case rel => exact ⟨k + 1, by omega, by go_num, HA6.out.stored N.out⟩
      case measure => simp [intOf]; omega
    · obtain rfl : k = 64 := by omega
      rw [show ((64 : Nat) : Int) = 64 from rfl]
      have E0 : AddE w gh W2.heap.size H (Sha.rounds (Sha.schedN bs 64) H 64) 0 wr := ⟨by rw [HA.out.below.block _ HG.out]; exact HHH.out, HA.out.hv, Upd.of_below HA.out.below, HG.out, HA.out.lv, HLEN.out, HA.out.len⟩
      have EE := Lib.hid E0
      have small := HA.out.small
      clear HA E0
      generalize hV : Sha.rounds (Sha.schedN bs 64) H 64 = V at *
      have HV := Lib.hid hV
      clear hV
      go_wp2
      go_loopw [12, 82] (fun _ i wr => ∃ k : Nat, k ≤ 8 ∧ i = .int .i64 k ∧ AddE w gh W2.heap.size H V k wr) (fun _ i _ => 8 - (intOf i).toNat)
      case atStart => exact ⟨0, by omega, rfl, EE.out⟩
      case round =>
        clear EE
        obtain ⟨k, hk, rfl, hA⟩ := hrel
        have HA := Lib.hid hA
        clear hA
        by_cases hlt2 : k < 8
        · have c0 := HA.out.cellH hlt2
          have c1 := HA.out.cellV k hlt2
          have f0 : wr.frozen? ⟨gh, k, none⟩ = false := frozenOf HA.out.hh k
          have l0 := Sha.getD_lt hHs k
          have l1 := Sha.getD_lt small k
          have q0 : (k : Int) < 8 := by omega
          have ST := Lib.hid (HA.out.step hlt2)
          generalize H.getD k 0 = x at *
          generalize V.getD k 0 = y at *
          go_wp2
          go_still_tail 11, (by kernel_rfl)
          change wpList _ _ _ _ _ wr.drew
          go_wp2
          go_roundw
          case rel => exact ⟨k + 1, by omega, by go_num, ST.out⟩
          case measure => simp [intOf]; omega
        · obtain rfl : k = 8 := by omega
          go_wp2
          go_end0
          refine ⟨rfl, ?_, HA.out.upd⟩
          rw [HA.out.hh, HA.out.all, ← HV.out]
          rfl
end Go.Proofs.YthlmgookaljgnaaGreatDoor
namespace Go.Proofs.YthlmgookaljgnaaGreatDoor
open Go.RowKit
set_option linter.unusedVariables false

/-- numbers as bytes in memory -/
def nv (l : List Nat) : List Value := l.map fun (x : Nat) => Value.int .u8 (x : Int)
theorem nv_length (l : List Nat) : (nv l).length = l.length := by simp [nv]
theorem be4_get (x : Nat) (k : Nat) (hk : k < 4) : (Sha.be4 x)[k]? = some (x / 2 ^ (24 - 8 * k) % 256) := by
  match k, hk with
  | 0, _ => rfl
  | 1, _ => rfl
  | 2, _ => rfl
  | 3, _ => simp [Sha.be4]
theorem flat_get : ∀ (H : List Nat) (i k : Nat) (hi : i < H.length) (hk : k < 4), (H.flatMap Sha.be4)[4 * i + k]? = some (H[i] / 2 ^ (24 - 8 * k) % 256)
  | [], _, _, hi, _ => by simp at hi
  | x :: H, 0, k, _, hk => by
    rw [List.flatMap_cons, List.getElem?_append_left (by simp [Sha.be4]; omega)]
    simpa using be4_get x k hk
  | x :: H, i + 1, k, hi, hk => by
    rw [List.flatMap_cons, List.getElem?_append_right (by simp [Sha.be4]; omega)]
    have := flat_get H i k (by simpa using hi) hk
    rw [show 4 * (i + 1) + k - (Sha.be4 x).length = 4 * i + k by simp [Sha.be4]; omega]
    simpa using this
/-- p bytes of the digest stand. -/
structure OutS (w : World) (bo : Nat) (F : List Nat) (p : Nat) (wr : World) : Prop where
  ho : wr.heap[bo]? = some (.cells (nv (F.take p ++ List.replicate (32 - p) 0)).toArray 207 (0, 0))
  below : Below w.heap.size w wr
  lo : w.heap.size ≤ bo
  len : F.length = 32
theorem OutS.cell {w wr : World} {bo p : Nat} {F : List Nat} (h : OutS w bo F p wr) (j : Nat) (hj : j < 32) (hp : p ≤ 32) : ∃ x : Nat, wr.cell? ⟨bo, j, none⟩ = some (.int .u8 (x : Int)) := by
  rw [cellOf h.ho]
  have hl : (F.take p ++ List.replicate (32 - p) 0).length = 32 := by simp [h.len]; omega
  refine ⟨(F.take p ++ List.replicate (32 - p) 0)[j]'(by omega), ?_⟩
  simp only [nv, List.getElem?_toArray, List.getElem?_map]
  rw [List.getElem?_eq_getElem (by omega)]; rfl
theorem OutS.step {w wr : World} {bo p : Nat} {F : List Nat} (h : OutS w bo F p wr) (hp : p < 32) (x : Nat) (hx : F[p]? = some x) (z : Int) (hz : z = (x : Int)) : OutS w bo F (p + 1) (wr.setCell ⟨bo, p, none⟩ (.int .u8 z)) := by
  subst hz
  refine ⟨?_, h.below.setCell h.lo _, h.lo, h.len⟩
  rw [setOf_ h.ho p _]
  congr 2
  have hF := h.len
  have hx' : F[p]'(by omega) = x := by rw [List.getElem?_eq_getElem (by omega)] at hx; injection hx
  rw [List.take_succ_eq_append_getElem (by omega), hx', show 32 - p = (32 - (p + 1)) + 1 by omega, List.replicate_succ]
  simp only [nv, List.setIfInBounds_toArray, List.map_append, List.map_cons, List.map_nil]
  rw [List.set_append_right _ _ (by simp; omega)]
  simp [hF, show min p 32 = p by omega]

theorem flat_bytes (H : List Nat) : Sha.bytes (H.flatMap Sha.be4) := by
  intro x hx
  obtain ⟨y, _, hx⟩ := List.mem_flatMap.1 hx
  simp only [Sha.be4, List.mem_cons, List.not_mem_nil, or_false] at hx
  omega
theorem nv_bytesV {F : List Nat} (h : Sha.bytes F) : nv F = bytesV (F.map UInt8.ofNat) := by
  simp only [nv, bytesV, List.map_map]
  refine List.map_congr_left fun x hx => ?_
  have := h x hx
  simp only [Function.comp_apply, UInt8.toNat_ofNat', Value.int.injEq, true_and]
  rw [Nat.mod_eq_of_lt (by omega)]
theorem OutS.conv {w wr : World} {bo : Nat} {F : List Nat} (h : OutS w bo F (4 * 8) wr) (hF : Sha.bytes F) :
    (convert 39 9 (.slice (some ⟨bo, 0, none⟩) 32 32)).run Tryz.prog wr = .ok (.string ⟨(F.map UInt8.ofNat).toArray⟩) wr := by
  have hh := h.ho
  rw [List.take_of_length_le (by rw [h.len]; omega), show 32 - 4 * 8 = 0 from rfl, List.replicate_zero, List.append_nil, nv_bytesV hF] at hh
  rw [run_conv_row 39 9 5 Tryz.underlying39 Tryz.underlying5 Tryz.underlying9 bo 0 32 32 _ _ hh (by simp [h.len])]
  rw [List.drop_zero, List.take_of_length_le (by simp [h.len])]

theorem Tryz.szByte : (Tryz.prog.info? 5).map (·.size) = some 1 := by kernel_rfl

set_option maxRecDepth 100000 in
set_option maxHeartbeats 4000000 in
theorem dig_any (H : List Nat) (hH : H.length = 8) (hHs : Sha.small H) (w : World) :
    Calls Tryz.prog 112 #[.agg (wv H).toArray] w fun e w' => e = .returned (.string ⟨((H.flatMap Sha.be4).map UInt8.ofNat).toArray⟩) ∧ Below w.heap.size w w' := by
  have hV : ∃ vs, (wv H).toArray = vs ∧ vs.size = 8 := ⟨_, rfl, by simp [wv, hH]⟩
  obtain ⟨vs, hvs, hsv⟩ := hV
  rw [hvs]
  have i2 : (Tryz.prog.info? 177).map (·.size) = some vs.size := by rw [hsv]; exact Tryz.size8
  have I2 := Lib.hid i2
  have E2 := Lib.hid hvs
  clear i2 hvs
  go_enter Tryz.func112, Tryz.ntmps112
  go_wp2_with (first
    | (refine wpList_load_row rfl 177 (.tmp 1) rfl w.heap.size rfl 177 vs (0, 0) _ (by rw [allocOld (by simp)]; exact allocAt _ rfl) Tryz.underlying177 rfl I2.out ?_))
  have Z : Hid (OutS w (w.heap.size + 1) (H.flatMap Sha.be4) 0 ((w.alloc (.cells vs 177)).alloc (.cells (nv (List.replicate 32 0)).toArray 207))) :=
    Lib.hid ⟨allocAt _ (by simp), ((Below.refl _ w).alloc (Nat.le_refl _) _).alloc (by simp) _, by omega, by rw [Sha.flat_length, hH]⟩
  have HF := Lib.hid (flat_get H)
  go_loopw [4, 5, 6, 8, 12] (fun _ _ _ i _ wr => ∃ k : Nat, k ≤ 8 ∧ i = .int .i64 k ∧ OutS w (w.heap.size + 1) (H.flatMap Sha.be4) (4 * k) wr) (fun _ _ _ i _ _ => 8 - (intOf i).toNat)
  case atStart => exact ⟨0, by omega, rfl, Z.out⟩
  case round =>
    clear Z
    obtain ⟨i, hi, rfl, hO⟩ := hrel
    have HO := Lib.hid hO
    clear hO
    by_cases hlt : i < 8
    · have hix : ∀ W, (Instr.index 177 (.agg vs) (.int .i64 (i : Int))).run Tryz.prog W = .ok (.int .u32 (H[i]'(by omega) : Nat)) W := fun W =>
        run_index_agg Tryz.underlying177 .u32 Tryz.underlying156 Tryz.sz82 vs i hlt _ (by rw [← E2.out]; simp [wv, List.getElem?_eq_getElem (show i < H.length by omega)]) W
      have hx : H[i]'(by omega) < 4294967296 := hHs _ (List.getElem_mem _)
      have FF : Hid (∀ k, k < 4 → (H.flatMap Sha.be4)[4 * i + k]? = some (H[i]'(by omega) / 2 ^ (24 - 8 * k) % 256)) := Lib.hid fun k hk => HF.out i k (by omega) hk
      generalize H[i]'(by omega) = x at *
      go_wp2
      obtain ⟨wo, rfl⟩ : ∃ wo : World, wo = wr := ⟨_, rfl⟩
      go_loopw [6, 12] (fun _ k wr => ∃ j : Nat, j ≤ 4 ∧ k = .int .i64 j ∧ OutS w (w.heap.size + 1) (H.flatMap Sha.be4) (4 * i + j) wr) (fun _ k _ => 4 - (intOf k).toNat)
      case atStart => exact ⟨0, by omega, rfl, HO.out⟩
      case round =>
        clear HO
        obtain ⟨j, hj, rfl, hO⟩ := hrel
        have HO := Lib.hid hO
        clear hO
        by_cases hlt2 : j < 4
        · obtain ⟨y, cy⟩ := HO.out.cell (4 * i + j) (by omega) (by omega)
          have f0 : wr.frozen? ⟨w.heap.size + 1, 4 * i + j, none⟩ = false := frozenOf HO.out.ho _
          have q0 : 4 * (i : Int) + (j : Int) < 32 := by omega
          have q1 : 0 ≤ 4 * (i : Int) + (j : Int) := by omega
          have q2 : 0 ≤ 24 - 8 * (j : Int) := by omega
          have q3 : (4 * (i : Int) + (j : Int)).toNat = 4 * i + j := by omega
          have q4 : (24 - 8 * (j : Int)).toNat = 24 - 8 * j := by omega
          have q5 : 8 * (j : Int) ≤ 24 := by omega
          go_wp2
          go_roundw
          case rel => exact ⟨j + 1, by omega, by go_num, HO.out.step (by omega) _ (FF.out j hlt2) _ (by simp)⟩
          case measure => simp [intOf]; omega
        · obtain rfl : j = 4 := by omega
          go_wp2
          go_roundw
          case rel => exact ⟨i + 1, by omega, by go_num, HO.out⟩
          case measure => simp [intOf]; omega
    · obtain rfl : i = 8 := by omega
      have hconv := HO.out.conv (flat_bytes H)
      have HB := Lib.hid HO.out.below
      clear HO
      go_wp2
      go_ret
      exact ⟨rfl, HB.out⟩
end Go.Proofs.YthlmgookaljgnaaGreatDoor
