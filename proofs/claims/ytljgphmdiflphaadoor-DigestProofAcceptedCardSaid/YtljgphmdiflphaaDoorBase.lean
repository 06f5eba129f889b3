/- Words and small laws that the walks of this seat share: what a call leaves as it was, rows of bytes, copies into them. -/
import Derived.WalkKit
import Derived.WalkLawsBesides
import Derived.WalkSpells
import Derived.Deep.QuietTactic
import Derived.BigQuiet
import Derived.Handy
import Derived.Lib.LazyBuf
import Derived.Lib.BufferWrite
import Derived.Lib.Hide
import Derived.Laws.CopyOwn
import Derived.Maps.AppendAt
import Derived.KernelRfl
namespace Go.Proofs.YtljgphmdiflphaaDoor
open Go.RowKit

/-! ### What a call leaves as it was -/
/-- Outside S nothing that was there has turned. -/
structure Upd (S : Nat → Prop) (w w' : World) : Prop where
  os : w'.os = w.os
  tape : w'.tape = w.tape
  output : w'.output = w.output
  size : w.heap.size ≤ w'.heap.size
  block : ∀ k, k < w.heap.size → ¬ S k → w'.heap[k]? = w.heap[k]?

theorem Upd.refl (S : Nat → Prop) (w : World) : Upd S w w := ⟨rfl, rfl, rfl, Nat.le_refl _, fun _ _ _ => rfl⟩
theorem Upd.trans {S T : Nat → Prop} {a b c : World} (h : Upd S a b) (k : Upd T b c) (hT : ∀ i, i < a.heap.size → T i → S i) : Upd S a c :=
  ⟨k.os.trans h.os, k.tape.trans h.tape, k.output.trans h.output, Nat.le_trans h.size k.size, fun i hi hS =>
    (k.block i (Nat.lt_of_lt_of_le hi h.size) (fun t => hS (hT i hi t))).trans (h.block i hi hS)⟩
theorem Upd.mono {S T : Nat → Prop} {a b : World} (h : Upd S a b) (hT : ∀ i, i < a.heap.size → S i → T i) : Upd T a b :=
  ⟨h.os, h.tape, h.output, h.size, fun i hi hn => h.block i hi fun s => hn (hT i hi s)⟩
theorem Upd.below {S : Nat → Prop} {a b : World} (h : Upd S a b) (hS : ∀ i, i < a.heap.size → ¬ S i) : Below a.heap.size a b :=
  ⟨h.os, h.tape, h.output, h.size, fun i hi => h.block i hi (hS i hi)⟩
theorem Upd.of_below {S : Nat → Prop} {a b : World} (h : Below a.heap.size a b) : Upd S a b := ⟨h.os, h.tape, h.output, h.size, fun i hi _ => h.block i hi⟩
theorem Upd.alloc {S : Nat → Prop} {a w : World} (h : Upd S a w) (o : Obj) : Upd S a (w.alloc o) :=
  ⟨h.os, h.tape, h.output, by rw [World.size_alloc]; have := h.size; omega, fun k hk hn => by
    rw [Below.heap_alloc _ _ _ (Nat.lt_of_lt_of_le hk h.size)]; exact h.block k hk hn⟩
theorem Upd.drew {S : Nat → Prop} {a w : World} (h : Upd S a w) : Upd S a w.drew := ⟨h.os, h.tape, h.output, h.size, h.block⟩
theorem Upd.of_drew {S : Nat → Prop} {a w : World} (h : Upd S a.drew w) : Upd S a w := ⟨h.os, h.tape, h.output, h.size, h.block⟩
theorem Upd.of_drewN {S : Nat → Prop} {a w : World} {n : Nat} (h : Upd S (a.drewN n) w) : Upd S a w := ⟨h.os, h.tape, h.output, h.size, h.block⟩
theorem Upd.drewN {S : Nat → Prop} {a w : World} (h : Upd S a w) (n : Nat) : Upd S a (w.drewN n) := ⟨h.os, h.tape, h.output, h.size, h.block⟩
theorem Upd.setCell {S : Nat → Prop} {a w : World} (h : Upd S a w) (p : Addr) (v : Value) (hp : S p.block ∨ a.heap.size ≤ p.block) : Upd S a (w.setCell p v) :=
  ⟨h.os, h.tape, h.output, by rw [World.size_setCell]; exact h.size, fun k hk hn => by
    rw [Below.heap_setCell _ _ _ _ (fun e => by subst e; rcases hp with hp | hp; exact hn hp; omega)]; exact h.block k hk hn⟩
theorem Upd.setRow {S : Nat → Prop} {a w : World} (h : Upd S a w) (g : Nat) (cs : Array Value) (hp : S g ∨ a.heap.size ≤ g) : Upd S a (w.setRow g cs) :=
  ⟨h.os, h.tape, h.output, by rw [size_setRow]; exact h.size, fun k hk hn => by
    rw [setRow_other w g k cs (fun e => by subst e; rcases hp with hp | hp; exact hn hp; omega)]; exact h.block k hk hn⟩
theorem Upd.grown {S : Nat → Prop} {a w w' : World} {row : Option Nat} (h : Upd S a w) (hg : w.grownBy w' row) (hr : ∀ k, row = some k → S k ∨ a.heap.size ≤ k) : Upd S a w' :=
  ⟨hg.os.trans h.os, hg.tape.trans h.tape, hg.output.trans h.output, Nat.le_trans h.size hg.size, fun k hk hn =>
    (hg.block k (Nat.lt_of_lt_of_le hk h.size) (fun e => by rcases hr k e.symm with h' | h'; exact hn h'; omega)).trans (h.block k hk hn)⟩

theorem Upd.cell {S : Nat → Prop} {w w' : World} (h : Upd S w w') {a : Addr} {v : Value} (hc : w.cell? a = some v) (hS : ¬ S a.block) : w'.cell? a = some v := by
  rw [World.cell?_of_block (w := w) (h.block a.block (World.block_lt_of_cell? w a hc) hS)]; exact hc
theorem Upd.at {S : Nat → Prop} {w w' : World} (h : Upd S w w') {b : Nat} {o : Obj} (hc : w.heap[b]? = some o) (hS : ¬ S b) : w'.heap[b]? = some o := by
  rw [h.block b (Array.getElem?_eq_some_iff.1 hc).1 hS]; exact hc

/-! ### Blocks known whole -/
theorem cellOf {w : World} {b : Nat} {cs : Array Value} {t : TypeId} {fr : Nat × Nat} (h : w.heap[b]? = some (.cells cs t fr)) (o : Nat) : w.cell? ⟨b, o, none⟩ = cs[o]? := by
  simp [World.cell?, h]
theorem frozenOf {w : World} {b : Nat} {cs : Array Value} {t : TypeId} (h : w.heap[b]? = some (.cells cs t (0, 0))) (o : Nat) : w.frozen? ⟨b, o, none⟩ = false := by
  simp [World.frozen?, h]
theorem ltOf {w : World} {b : Nat} {o : Obj} (h : w.heap[b]? = some o) : b < w.heap.size := (Array.getElem?_eq_some_iff.1 h).1
theorem setOf_ {w : World} {b : Nat} {cs : Array Value} {t : TypeId} {fr : Nat × Nat} (h : w.heap[b]? = some (.cells cs t fr)) (o : Nat) (v : Value) :
    (w.setCell ⟨b, o, none⟩ v).heap[b]? = some (.cells (cs.setIfInBounds o v) t fr) := by
  simp [World.setCell, Array.getElem?_modify, h]
theorem setNe {w : World} {b k : Nat} (h : k ≠ b) (o : Nat) (v : Value) : (w.setCell ⟨b, o, none⟩ v).heap[k]? = w.heap[k]? := Below.heap_setCell _ _ _ _ h
theorem allocOld {w : World} {k : Nat} (h : k < w.heap.size) (o : Obj) : (w.alloc o).heap[k]? = w.heap[k]? := Below.heap_alloc _ _ _ h
theorem allocAt {w : World} {n : Nat} (o : Obj) (h : n = w.heap.size) : (w.alloc o).heap[n]? = some o := by rw [h]; exact heap_alloc_new w o
theorem drewHeap (w : World) : w.drew.heap = w.heap := rfl
theorem drewNHeap (w : World) (n : Nat) : (w.drewN n).heap = w.heap := rfl
theorem blk_ne {w : World} {b c : Nat} {o p : Obj} (h : w.heap[b]? = some o) (k : w.heap[c]? = some p) (hn : o ≠ p) : b ≠ c := by
  rintro rfl; rw [h] at k; exact hn (Option.some.inj k)
theorem ty_ne {w : World} {b c : Nat} {x y : Array Value} {s t : TypeId} {f g : Nat × Nat} (h : w.heap[b]? = some (.cells x s f)) (k : w.heap[c]? = some (.cells y t g)) (hn : s ≠ t) : b ≠ c :=
  blk_ne h k (fun e => hn (by injection e))

/-! ### Rows of bytes -/
theorem splice_get {α : Type} (l s : List α) (p i : Nat) (h : p + s.length ≤ l.length) :
    (splice l p s)[i]? = if i < p then l[i]? else if i < p + s.length then s[i - p]? else l[i]? := by
  unfold splice
  have hp : min p l.length = p := by omega
  rw [List.getElem?_append, List.length_take, hp]
  split
  · rename_i h1
    rw [List.getElem?_take, if_pos h1]
  · rename_i h1
    rw [List.getElem?_append]
    by_cases h2 : i < p + s.length
    · rw [if_pos (by omega), if_pos h2]
    · rw [if_neg (by omega), if_neg h2, List.getElem?_drop]
      congr 1
      omega
theorem splice_take_succ {α : Type} (l : List α) (p k : Nat) (s : List α) (hk : k < s.length) (h : p + s.length ≤ l.length) :
    (splice l p (s.take k)).set (p + k) s[k] = splice l p (s.take (k + 1)) := by
  apply List.ext_getElem?
  intro i
  have h1 : (s.take k).length = k := by rw [List.length_take]; omega
  have h2 : (s.take (k + 1)).length = k + 1 := by rw [List.length_take]; omega
  have hl : (splice l p (s.take k)).length = l.length := by unfold splice; simp; omega
  rw [List.getElem?_set, splice_get _ _ _ _ (by rw [h1]; omega), splice_get _ _ _ _ (by rw [h2]; omega), h1, h2, hl]
  by_cases e : p + k = i
  · subst e
    rw [if_pos rfl, if_pos (by omega), if_neg (by omega), if_pos (by omega), List.getElem?_take, if_pos (by omega)]
    rw [show p + k - p = k by omega, List.getElem?_eq_getElem hk]
  · rw [if_neg e]
    by_cases c1 : i < p
    · rw [if_pos c1, if_pos c1]
    · rw [if_neg c1, if_neg c1]
      by_cases c2 : i < p + k
      · rw [if_pos c2, if_pos (by omega), List.getElem?_take, List.getElem?_take, if_pos (by omega), if_pos (by omega)]
      · rw [if_neg c2, if_neg (by omega)]
def bytesV (l : List UInt8) : List Value := l.map fun x => Value.int .u8 (x.toNat : Int)
theorem bytesV_length (l : List UInt8) : (bytesV l).length = l.length := by simp [bytesV]
theorem bytesV_get {l : List UInt8} {j : Nat} (h : j < l.length) : (bytesV l)[j]? = some (.int .u8 (l[j].toNat : Int)) := by simp [bytesV, h]
theorem bytesV_set (l : List UInt8) (i : Nat) (x : UInt8) : (bytesV l).toArray.setIfInBounds i (.int .u8 (x.toNat : Int)) = (bytesV (l.set i x)).toArray := by
  simp [bytesV, List.map_set]
theorem bytesV_splice (l : List UInt8) (o : Nat) (s : List UInt8) : splice (bytesV l) o (bytesV s) = bytesV (splice l o s) := by
  simp [splice, bytesV, List.map_take, List.map_drop]
theorem bytesV_one (l : List UInt8) : ∀ v ∈ bytesV l, v.oneCell' = true := by
  intro v hv; obtain ⟨x, _, rfl⟩ := List.mem_map.1 hv; rfl

/-! ### copy into a row of bytes -/
section
variable {P : Program} {ops : Array Oper} {o : Oper} {a : Act} {w : World} {K : Act → World → Prop} {Q : Exit → Act → World → Prop}

theorem run_copy_str (w : World) (dT sT ty elem : TypeId) (dp : Option Addr) (g p dLen dCap : Nat) (s : ByteArray) (l : List UInt8) (t : TypeId)
    (hu : P.underlying dT = some (.slice elem)) (hs : (P.info? elem).map (·.size) = some 1) (hg : w.heap[g]? = some (.cells (bytesV l).toArray t (0, 0)))
    (hdp : 0 < s.size → dp = some ⟨g, p, none⟩) (hle : s.size ≤ dLen) (hfit : p + s.size ≤ l.length) :
    ∃ w', (Builtin.copy_ #[dT, sT] ty #[.slice dp dLen dCap, .string s]).run P w = .ok (goInt s.size) w' ∧
      w'.heap[g]? = some (.cells (bytesV (splice l p s.data.toList)).toArray t (0, 0)) ∧ w.grownBy w' (some g) := by
  by_cases h0 : s.size = 0
  · refine ⟨w, ?_, ?_, ⟨rfl, rfl, rfl, Nat.le_refl _, fun _ _ _ => rfl⟩⟩
    · rw [Lib.run_copy_empty_string w dT sT ty elem dp dLen dCap s hu (by rw [Option.isSome_map]; cases h : P.info? elem <;> simp_all) h0, h0]
      rfl
    · have he : s.data.toList = [] := List.eq_nil_of_length_eq_zero (by rw [← Lib.size_eq]; exact h0)
      rw [hg, he]
      simp [splice]
  · rw [hdp (by omega)]
    have hr := Lib.run_copy_row_string (P := P) w dT sT ty elem g p dLen dCap s _ t hu hs hg hle (by simp [bytesV_length]; exact hfit)
    refine ⟨_, hr, ?_, ⟨rfl, rfl, rfl, by rw [setRow_size]; exact Nat.le_refl _, fun k _ hk => setRow_other w g k _ (fun e => hk (by rw [e]))⟩⟩
    rw [setRow_heap w g _ _ t _ hg]
    have e : (Lib.byteCells s.data.toList) = bytesV s.data.toList := rfl
    have el : s.size = (bytesV s.data.toList).length := by rw [bytesV_length, ← Lib.size_eq]
    rw [e, ← bytesV_splice, splice, el, List.append_assoc]

/-- copy(row[p:], s), s a string that fits: one step of a region, in whatever order. -/
theorem step_copy_str {E : Prop} (hgd : o.guard = none) (d x : Operand) (dT sT : TypeId) (hop : o.op = .call { callee := .builtin .copy, args := #[d, x], argTypes := #[dT, sT] })
    (elem : TypeId) (hu : P.underlying dT = some (.slice elem)) (hs : (P.info? elem).map (·.size) = some 1)
    (dp : Option Addr) (dLen dCap : Nat) (hd : a.eval d = .slice dp dLen dCap) (s : ByteArray) (hx : a.eval x = .string s)
    (g p : Nat) (l : List UInt8) (t : TypeId) (hg : w.heap[g]? = some (.cells (bytesV l).toArray t (0, 0)))
    (hdp : 0 < s.size → dp = some ⟨g, p, none⟩) (hle : s.size ≤ dLen) (hfit : p + s.size ≤ l.length)
    (hK : ∀ w', Hid (w'.heap[g]? = some (.cells (bytesV (splice l p s.data.toList)).toArray t (0, 0))) → Hid (w.grownBy w' (some g)) → K (a.put o.dst (goInt s.size)) w') :
    if Region.wanted o (yielded ops a.tmps) = true then Oper.wp P o a w K Q else E := by
  have hw : Region.wanted o (yielded ops a.tmps) = true := by simp [Region.wanted, hgd]
  rw [if_pos hw]
  obtain ⟨w', hr, h1, h2⟩ := run_copy_str (P := P) w dT sT o.type elem dp g p dLen dCap s l t hu hs hg hdp hle hfit
  unfold Oper.wp
  simp [execOp, hop, resolve, invoke, builtin, hd, hx, hr, Result.andThen]
  exact hK w' h1 h2

/-- copy(to, from), two rows of one length. -/
theorem wpList_copy_rows {rest : List Oper} (hgd : o.guard = none) (d x : Operand) (dT sT : TypeId) (hop : o.op = .call { callee := .builtin .copy, args := #[d, x], argTypes := #[dT, sT] })
    (elem : TypeId) (hu : P.underlying dT = some (.slice elem)) (hs : (P.info? elem).map (·.size) = some 1) (n : Nat)
    (g h dCap sCap : Nat) (hd : a.eval d = .slice (some ⟨g, 0, none⟩) n dCap) (hx : a.eval x = .slice (some ⟨h, 0, none⟩) n sCap)
    (l m : List UInt8) (t u : TypeId) (hg : w.heap[g]? = some (.cells (bytesV l).toArray t (0, 0))) (hh : w.heap[h]? = some (.cells (bytesV m).toArray u (0, 0)))
    (hl : l.length = n) (hm : m.length = n)
    (hK : ∀ w', Hid (w'.heap[g]? = some (.cells (bytesV m).toArray t (0, 0))) → Hid (w.grownBy w' (some g)) → wpList P ops Q rest (a.put o.dst (goInt n)) w') :
    wpList P ops Q (o :: rest) a w := by
  refine wpList_plain hgd fun K hK' => ?_
  have hr := run_copy_row (P := P) w dT sT o.type elem g 0 n dCap ⟨h, 0, none⟩ n sCap _ t (bytesV m) hu hs hg (by simp [bytesV_length, hm])
    (fun j v hv => by
      have ha : (⟨h, 0, none⟩ : Addr).add j = ⟨h, j, none⟩ := by unfold Addr.add; split <;> simp_all
      rw [ha, cellOf hh]; simpa using hv) (by simp [bytesV_length, hl, hm]) (bytesV_one m)
  unfold Oper.wp
  simp [execOp, hop, resolve, invoke, builtin, hd, hx, hr, Result.andThen]
  refine hK' _ _ ?_
  rw [bytesV_length, hm]
  refine hK _ ?_ ⟨rfl, rfl, rfl, by rw [setRow_size]; exact Nat.le_refl _, fun k _ hk => setRow_other w g k _ (fun e => hk (by rw [e]))⟩
  show _ = _
  rw [setRow_heap w g _ _ t _ hg]
  rw [List.drop_of_length_le (by simp [bytesV_length, hl])]
  simp

/-- clear(v), v a row of the call's own. -/
theorem run_clear_own {base t e ty size n : Nat} {v : Value} {xs : List Value} (w : World) (ht : P.underlying t = some (.slice e)) (z : Value) (hv : ∀ w, (zeroValue e).run P w = .ok z w) (hz : z.cells.size = size)
    (h1 : ∀ u ∈ z.cells, u.oneCell' = true) (hown : w.ownsRow base e size v n xs) :
    ∃ w' xs', (Builtin.clear_ #[t] ty #[v]).run P w = .ok (.tuple #[]) w' ∧ w'.ownsRow base e size v n xs' ∧ w.grownBy w' v.ownBlock := by
  rcases hown.2 with ⟨rfl, rfl⟩ | ⟨g, cap, cur, rfl, hb, hg, hn, hc, hs, htk⟩
  · refine ⟨w, xs, ?_, hown, ⟨rfl, rfl, rfl, Nat.le_refl _, fun _ _ _ => rfl⟩⟩
    simp [Builtin.clear_, run_underlying ht]
  · by_cases h0 : n = 0
    · subst h0
      refine ⟨w, xs, ?_, hown, ⟨rfl, rfl, rfl, Nat.le_refl _, fun _ _ _ => rfl⟩⟩
      simp [Builtin.clear_, run_underlying ht]
    · have hl : (Builtin.zeroCells z.cells n).toList.length = n * size := by rw [Array.length_toList, size_zeroCells, hz]
      have hle : n * size ≤ cap * size := Nat.mul_le_mul_right _ hn
      have hst := run_storeCells_at P g 0 e (Builtin.zeroCells z.cells n).toList 0 cur w hg (by rw [hl, hs]; simpa using hle) (by
        intro u hu
        rw [Array.mem_toList_iff] at hu
        simp [Builtin.zeroCells] at hu
        obtain ⟨i, hi, hu⟩ := hu
        have hpos : 0 < z.cells.size := Nat.pos_of_ne_zero fun e => by rw [e] at hi; omega
        rw [getElem!_pos z.cells _ (Nat.mod_lt _ hpos)] at hu
        rw [← hu]
        exact h1 _ (Array.getElem_mem _))
      refine ⟨w.setRow g (List.take (0 + 0) cur.toList ++ (Builtin.zeroCells z.cells n).toList ++ List.drop (0 + 0 + (Builtin.zeroCells z.cells n).toList.length) cur.toList).toArray, (Builtin.zeroCells z.cells n).toList, ?_, ⟨hl, .inr ⟨g, cap, _, rfl, hb, setRow_heap w g _ _ e _ hg, hn, hc, ?_, ?_⟩⟩, ⟨rfl, rfl, rfl, by rw [setRow_size]; exact Nat.le_refl _, fun k _ hk => setRow_other w g k _ (fun e => hk (by simp [Value.ownBlock, e]))⟩⟩
      · obtain ⟨m, rfl⟩ : ∃ m, n = m + 1 := ⟨n - 1, by omega⟩
        simp only [Builtin.clear_, List.getElem?_toArray, List.getElem?_cons_zero, Sem.run_bind, run_underlying ht, Result.andThen_ok, hv, hst]
        rfl
      · simp only [List.size_toArray, List.length_append, List.length_take, List.length_drop, Array.length_toList, size_zeroCells, hz, hs]
        omega
      · simp only [Nat.zero_add, List.take_zero, List.nil_append]
        rw [← hl]
        exact List.take_left

theorem wpList_clear_own {rest : List Oper} (hgd : o.guard = none) (x : Operand) (t : TypeId) (hop : o.op = .call { callee := .builtin .clear, args := #[x], argTypes := #[t] })
    (base e size : Nat) (ht : P.underlying t = some (.slice e)) (z : Value) (hv : ∀ w, (zeroValue e).run P w = .ok z w) (hz : z.cells.size = size) (h1 : ∀ u ∈ z.cells, u.oneCell' = true)
    (v : Value) (n : Nat) (xs : List Value) (hx : a.eval x = v) (hown : w.ownsRow base e size v n xs)
    (hK : ∀ w' xs', Hid (w'.ownsRow base e size v n xs') → Hid (w.grownBy w' v.ownBlock) → wpList P ops Q rest (a.put o.dst (.tuple #[])) w') :
    wpList P ops Q (o :: rest) a w := by
  refine wpList_plain hgd fun K hK' => ?_
  obtain ⟨w', xs', hr, h2, h3⟩ := run_clear_own (P := P) (ty := o.type) w ht z hv hz h1 hown
  unfold Oper.wp
  simp [execOp, hop, resolve, invoke, builtin, hx, hr, Result.andThen]
  exact hK' _ _ (hK w' xs' h2 h3)

/-- string(row[p:p+m]) -/
theorem run_conv_row {w : World} (src dst e : TypeId) (hs : P.underlying src = some (.slice e)) (he : P.underlying e = some (.int .u8)) (hd : P.underlying dst = some .string) (g p m cap : Nat) (l : List UInt8) (t : TypeId)
    (hg : w.heap[g]? = some (.cells (bytesV l).toArray t (0, 0))) (h : p + m ≤ l.length) :
    (convert src dst (.slice (some ⟨g, p, none⟩) m cap)).run P w = .ok (.string ⟨((l.drop p).take m).toArray⟩) w := by
  have hr := run_convert_bytes_arg (P := P) w src e hs he g p m cap (((l.drop p).take m).map fun x => (x.toNat : Int)) (by simp; omega) (fun i hi => by
    rw [cellOf hg]
    have h1 : p + i < l.length := by omega
    simp [bytesV, h1, hi, List.getElem?_drop]) dst hd
  rw [hr]
  simp [strOfNums, Function.comp_def]

/-- clear(row[p:p+m]), one cell an element. -/
theorem run_clear_sub (w : World) (t e ty : TypeId) (ht : P.underlying t = some (.slice e)) (z : Value) (hv : ∀ w, (zeroValue e).run P w = .ok z w) (hz : z.cells = #[z]) (h1 : z.oneCell' = true)
    (dp : Option Addr) (g p m c : Nat) (cur : List Value) (u : TypeId) (hg : w.heap[g]? = some (.cells cur.toArray u (0, 0))) (hdp : 0 < m → dp = some ⟨g, p, none⟩) (hfit : p + m ≤ cur.length) :
    ∃ w', (Builtin.clear_ #[t] ty #[.slice dp m c]).run P w = .ok (.tuple #[]) w' ∧ w'.heap[g]? = some (.cells (splice cur p (List.replicate m z)).toArray u (0, 0)) ∧ w.grownBy w' (some g) := by
  by_cases h0 : m = 0
  · subst h0
    refine ⟨w, ?_, by simpa [splice] using hg, ⟨rfl, rfl, rfl, Nat.le_refl _, fun _ _ _ => rfl⟩⟩
    cases dp <;> simp [Builtin.clear_, run_underlying ht]
  · obtain ⟨m, rfl⟩ : ∃ k, m = k + 1 := ⟨m - 1, by omega⟩
    rw [hdp (by omega)]
    have hzc : (Builtin.zeroCells z.cells (m + 1)).toList = List.replicate (m + 1) z := by
      apply List.ext_getElem
      · rw [Array.length_toList, size_zeroCells, hz]; simp
      · intro i h1 h2
        simp [Builtin.zeroCells, hz, Nat.mod_one]
    have hst := run_storeCells_at P g p u (List.replicate (m + 1) z) 0 cur.toArray w hg (by simpa using hfit) (by intro v hv'; rw [(List.mem_replicate.1 hv').2]; exact h1)
    refine ⟨_, ?_, setRow_heap w g _ _ u _ hg, ⟨rfl, rfl, rfl, by rw [setRow_size]; exact Nat.le_refl _, fun k _ hk => setRow_other w g k _ (fun e => hk (by rw [e]))⟩⟩
    simp only [Builtin.clear_, List.getElem?_toArray, List.getElem?_cons_zero, Sem.run_bind, run_underlying ht, Result.andThen_ok, hv, hzc, hst]
    simp [splice]

theorem wpList_clear_sub {rest : List Oper} (hgd : o.guard = none) (x : Operand) (t : TypeId) (hop : o.op = .call { callee := .builtin .clear, args := #[x], argTypes := #[t] })
    (e : TypeId) (ht : P.underlying t = some (.slice e)) (z : Value) (hv : ∀ w, (zeroValue e).run P w = .ok z w) (hz : z.cells = #[z]) (h1 : z.oneCell' = true)
    (dp : Option Addr) (m c : Nat) (hx : a.eval x = .slice dp m c) (g p : Nat) (cur : List Value) (u : TypeId) (hg : w.heap[g]? = some (.cells cur.toArray u (0, 0))) (hdp : 0 < m → dp = some ⟨g, p, none⟩) (hfit : p + m ≤ cur.length)
    (hK : ∀ w', Hid (w'.heap[g]? = some (.cells (splice cur p (List.replicate m z)).toArray u (0, 0))) → Hid (w.grownBy w' (some g)) → wpList P ops Q rest (a.put o.dst (.tuple #[])) w') :
    wpList P ops Q (o :: rest) a w := by
  refine wpList_plain hgd fun K hK' => ?_
  obtain ⟨w', hr, h2, h3⟩ := run_clear_sub (P := P) w t e o.type ht z hv hz h1 dp g p m c cur u hg hdp hfit
  unfold Oper.wp
  simp [execOp, hop, resolve, invoke, builtin, hx, hr, Result.andThen]
  exact hK' _ _ (hK w' h2 h3)
end

end Go.Proofs.YtljgphmdiflphaaDoor
