/- Rows of bytes that a call owns and appends to, a row made from a string among them.
  slices.Chunk over bytes, at parts of sixty-four.
  SHA-256: Sum.
  The reference's SHA-256: words for its rows of numbers; rotated, constants, extended.
  The reference's SHA-256: the bytes that are added to a string.
  How integers and strings are encoded: plain.
  A range over a function whose iterator keeps a number of its own: every round ends, and goes on.
  The reference's SHA-256: rows of words; append keeps what a row held.
-/
import Derived.Test.YthlmgookaljgnaaGreatDoorMa
import Derived.ArgAppend
import Derived.Lib.ConvBytes
import Derived.RangeFuncBox
import Derived.RangeFuncLeaves
import Derived.Shelf.Abstract
import Derived.OwnWalkIn
import Derived.TacticsInMore
import Derived.LoopNIn
import Derived.LoopIn
import Derived.Sort.QuietIn
import Derived.RangeFuncCalls
import Derived.Deep.AppendLies
import Derived.StillTailTactics
import Derived.Deep.RegionHeld3
namespace Go.Proofs.YthlmgookaljgnaaGreatDoor
open Go.RowKit
set_option linter.unusedVariables false

/-- A slice of bytes that the call owns from block base on; its row may bear the mark of a conversion behind its last cell. -/
def BRow (w : World) (base : Nat) (v : Value) (l : List Nat) : Prop :=
  ∃ g cap cur fr, v = .slice (some ⟨g, 0, none⟩) l.length cap ∧ base ≤ g ∧ w.heap[g]? = some (.cells cur 5 fr) ∧ l.length ≤ cap ∧ cap ≤ cur.size ∧ cur.toList.take l.length = nv l ∧ (∀ j, j < cap → w.frozen? ⟨g, j, none⟩ = false)

theorem BRow.of_own {w : World} {base n : Nat} {v : Value} {l : List Nat} (h : w.ownsRow base 5 1 v n (nv l)) (hn : 0 < n) : BRow w base v l := by
  have hl : l.length = n := by have := h.1; simpa [nv] using this
  rcases h.2 with ⟨rfl, h0⟩ | ⟨g, cap, cur, rfl, hb, hg, hn, hc, hs, htk⟩
  · omega
  · refine ⟨g, cap, cur, (0, 0), by rw [hl], hb, hg, by omega, by omega, by rw [hl, ← htk, Nat.mul_one], fun j _ => frozenOf hg j⟩

theorem BRow.upd {w w' : World} {base : Nat} {v : Value} {l : List Nat} {S : Nat → Prop} (h : BRow w base v l) (hu : Upd S w w') (hS : ∀ g, v.ownBlock = some g → ¬ S g) : BRow w' base v l := by
  obtain ⟨g, cap, cur, fr, rfl, hb, hg, h1, h2, h3, h4⟩ := h
  have hn := hS g rfl
  refine ⟨g, cap, cur, fr, rfl, hb, hu.at hg hn, h1, h2, h3, fun j hj => ?_⟩
  rw [World.frozen?_of_block (w := w) (hu.block g (ltOf hg) hn)]
  exact h4 j hj
theorem BRow.cell {w : World} {base : Nat} {v : Value} {l : List Nat} (h : BRow w base v l) : ∃ g cap, v = .slice (some ⟨g, 0, none⟩) l.length cap ∧ base ≤ g ∧ g < w.heap.size ∧ l.length ≤ cap ∧ ∀ j, j < l.length → w.cell? ⟨g, j, none⟩ = some (.int .u8 (l.getD j 0 : Nat)) := by
  obtain ⟨g, cap, cur, fr, rfl, hb, hg, h1, h2, h3, h4⟩ := h
  refine ⟨g, cap, rfl, hb, ltOf hg, h1, fun j hj => ?_⟩
  rw [cellOf hg]
  have := congrArg (·[j]?) h3
  simp only [List.getElem?_take, if_pos hj, nv, List.getElem?_map] at this
  rw [Array.getElem?_toList] at this
  rw [this, List.getD_eq_getElem?_getD, List.getElem?_eq_getElem hj]; rfl

theorem grownBy_setCell' (w : World) (b o : Nat) (v : Value) : w.grownBy (w.setCell ⟨b, o, none⟩ v) (some b) := Lib.grownBy_setCell w b o v

/-- append(row, x) of one byte -/
theorem wpList_brow_push {P : Program} {w : World} {ops : Array Oper} {rest : List Oper} {o : Oper} {a : Act} {Q : Exit → Act → World → Prop} (hgd : o.guard = none) (s x : Operand) (t : TypeId)
    (hop : o.op = Op.call { callee := Callee.builtin Builtin.append, args := #[s, x], argTypes := #[t, t] }) (ht : P.underlying t = some (.slice 5))
    (hinf : (P.info? 5).map (fun i => (i.zero, i.size, i.bytes)) = some (some (.int .u8 0), 1, 1))
    (base : Nat) (v : Value) (l : List Nat) (hs : a.eval s = v) (hrow : BRow w base v l) (B c : Nat) (y : Nat) (hx : a.eval x = .slice (some ⟨B, 0, none⟩) 1 c) (hB : w.cell? ⟨B, 0, none⟩ = some (.int .u8 (y : Int)))
    (hl : l.length ≤ 1000000000) (hbase : base ≤ w.heap.size)
    (hK : ∀ v' w', Hid (BRow w' base v' (l ++ [y])) → Hid (w.grownBy w' v.ownBlock) → wpList P ops Q rest (a.put o.dst v') w') : wpList P ops Q (o :: rest) a w := by
  obtain ⟨i0, hi0, hz0, hz1, hz2⟩ := info_parts hinf
  obtain ⟨g, cap, cur, fr, rfl, hb, hg, h1, h2, h3, h4⟩ := hrow
  have hcell : ∀ j u, (nv l)[j]? = some u → w.cell? ⟨g, 0 + j, none⟩ = some u := fun j u hu => by
    have hj : j < l.length := by rw [← nv_length]; exact (List.getElem?_eq_some_iff.1 hu).1
    rw [Nat.zero_add, cellOf hg]
    have := congrArg (·[j]?) h3
    simp only [List.getElem?_take, if_pos hj] at this
    rw [Array.getElem?_toList] at this
    rw [this]; exact hu
  refine wpList_append_arg w hgd s x t hop 5 i0 (.int .u8 0) 1 1 ht hi0 hz0 hz1 hz2 rfl (by decide) g 0 l.length cap (nv l) hs (by rw [nv_length]; omega) hcell ⟨B, 0, none⟩ 1 c [.int .u8 (y : Int)] hx rfl
    (fun j u hu => by
      match j, hu with
      | 0, hu => injection hu with hu; subst hu; exact hB
      | j + 1, hu => cases hu)
    (by simp [Value.oneCell']) (fun hroom j hj => ?_) (by simp only [maxLen]; omega) (by omega) (fun hroom => ?_) (fun hgrow v' w' hown hgw => ?_)
  · have hj0 : j = 0 := by simpa using hj
    subst hj0
    exact ⟨by rw [cellOf hg, Array.getElem?_eq_getElem (by omega)]; rfl, h4 _ (by omega)⟩
  · have hset : w.setCells g (0 + l.length * 1) [.int .u8 (y : Int)] = w.setCell ⟨g, l.length, none⟩ (.int .u8 (y : Int)) := by
      rw [Nat.zero_add, Nat.mul_one]; rfl
    rw [hset]
    refine hK _ _ ⟨g, cap, _, fr, by simp, hb, setOf_ hg _ _, by simpa using hroom, by simpa using h2, ?_, fun j hj => by rw [World.frozen?_setCell]; exact h4 j hj⟩ (grownBy_setCell' w g l.length _)
    rw [Array.toList_setIfInBounds]
    apply List.ext_getElem?
    intro i
    have e3 := congrArg (·[i]?) h3
    simp only [List.getElem?_take] at e3
    rw [List.getElem?_take, List.length_append, List.length_singleton]
    by_cases hi : i < l.length
    · rw [if_pos hi] at e3
      rw [if_pos (by omega), List.getElem?_set_ne (by omega), e3]
      simp only [nv, List.map_append, List.getElem?_map]
      rw [List.getElem?_append_left (by simpa using hi), List.getElem?_map]
    · by_cases hi2 : i = l.length
      · subst hi2
        rw [if_pos (by omega), List.getElem?_set_self (by simp; omega)]
        simp [nv]
      · rw [if_neg (by omega), List.getElem?_eq_none (by simp [nv]; omega)]
  · refine hK v' w' (BRow.of_own (n := l.length + 1) ?_ (by omega)) ⟨hgw.os, hgw.tape, hgw.output, hgw.size, fun k hk _ => hgw.block k hk (by simp)⟩
    have : nv l ++ [.int .u8 (y : Int)] = nv (l ++ [y]) := by simp [nv]
    rw [← this]
    exact ⟨hown.1, hown.2.imp id (fun ⟨g', c', cu', e1, e2, r⟩ => ⟨g', c', cu', e1, Nat.le_trans hbase e2, r⟩)⟩

/-- []byte(s) -/
theorem brow_of_string (w : World) (s : ByteArray) : BRow (Lib.bytesWorld w 5 s) w.heap.size (.slice (some ⟨w.heap.size, 0, none⟩) s.size (grownCap w s.size 0 5)) (Sha.nats s.data.toList) ∧
    Below w.heap.size w (Lib.bytesWorld w 5 s) := by
  have hnl : (Sha.nats s.data.toList).length = s.size := by rw [Sha.nats, List.length_map]; rfl
  have hcap : s.size ≤ grownCap w s.size 0 5 := grownCap_ge w s.size 0 _
  have hh := Lib.bytesWorld_at_new w 5 s
  have hcs : (Lib.bytesCells w 5 s).size = grownCap w s.size 0 5 := by
    rw [Lib.bytesCells, Array.size_append, Array.size_map, Array.size_replicate]; show s.size + _ = _; omega
  refine ⟨⟨w.heap.size, _, _, _, by rw [hnl], Nat.le_refl _, hh, by omega, by omega, ?_, fun j hj => ?_⟩, ⟨rfl, rfl, rfl, by rw [Lib.bytesWorld_size]; omega, fun k hk => Lib.bytesWorld_at_old w _ s k hk⟩⟩
  · rw [Lib.bytesCells, Array.toList_append, hnl, List.take_left' (by rw [Array.toList_map, List.length_map]; rfl)]
    rw [Array.toList_map, nv, Sha.nats, List.map_map]; rfl
  · unfold World.frozen?
    rw [hh]
    simp
    omega

/-- []byte(s), as one step: the world is named anew. -/
theorem wpList_string_bytes {P : Program} {w : World} {ops : Array Oper} {rest : List Oper} {o : Oper} {a : Act} {Q : Exit → Act → World → Prop} (hgd : o.guard = none) (src dst : TypeId) (x : Operand) (hop : o.op = .convert src dst x)
    {u : TypeDesc} (hs : P.underlying src = some u) (hd : P.underlying dst = some (.slice 5)) (he : P.underlying 5 = some (.int .u8)) (s : ByteArray) (hx : a.eval x = .string s)
    (hK : ∀ cap w', Hid (BRow w' w.heap.size (.slice (some ⟨w.heap.size, 0, none⟩) s.size cap) (Sha.nats s.data.toList)) → Hid (Below w.heap.size w w') → Hid (w'.heap.size = w.heap.size + 1) → wpList P ops Q rest (a.put o.dst (.slice (some ⟨w.heap.size, 0, none⟩) s.size cap)) w') :
    wpList P ops Q (o :: rest) a w := by
  refine wpList_plain hgd fun K hK' => ?_
  have hr := Lib.run_convert_string_bytes (P := P) w src dst 5 s hs hd he
  obtain ⟨h1, h2⟩ := brow_of_string w s
  unfold Oper.wp
  simp [execOp, hop, hx, hr, Result.andThen]
  exact hK' _ _ (hK _ _ h1 h2 (Lib.bytesWorld_size _ _ _))
end Go.Proofs.YthlmgookaljgnaaGreatDoor
namespace Go.Proofs.YthlmgookaljgnaaGreatDoor
open Go.RowKit Go.Shelf
set_option linter.unusedVariables false

attribute [local go_sem] Oper.semAt_some

/-- What a round keeps: the blocks of T. -/
def KeepT (T : Nat → Prop) (W W' : World) : Prop := W.heap.size ≤ W'.heap.size ∧ ∀ k, T k → W'.heap[k]? = W.heap[k]?
theorem KeepT.trans {T : Nat → Prop} {A B C : World} (h : KeepT T A B) (k : KeepT T B C) : KeepT T A C := ⟨Nat.le_trans h.1 k.1, fun j hj => (k.2 j hj).trans (h.2 j hj)⟩
theorem KeepT.refl (T : Nat → Prop) (W : World) : KeepT T W W := ⟨Nat.le_refl _, fun _ _ => rfl⟩
theorem KeepT.putObj {T : Nat → Prop} {w : World} (hT : ∀ k, T k → k < w.heap.size) (W : World) (l : Nat) (o o' : Obj) (hl : w.heap.size ≤ l) (_ : W.heap[l]? = some o) (_ : o.isCells = false) (_ : o.isWalk = false) : KeepT T W (W.putObj l o') :=
  ⟨by simp, fun k hk => World.putObj_heap_other (by have := hT k hk; omega)⟩
theorem KeepT.of_upd {T S : Nat → Prop} {W W' : World} (h : Upd S W W') (hT : ∀ k, T k → k < W.heap.size ∧ ¬ S k) : KeepT T W W' := ⟨h.size, fun k hk => h.block k (hT k hk).1 (hT k hk).2⟩
theorem ownFrom_upd {β : Type} {S : Nat → Prop} {B : Nat} {w₀ : World} (hB : w₀.heap.size ≤ B) : OwnFrom B (fun (_ : β) W => Upd S w₀ W) := fun s W W' row hs hg hr => hs.grown hg fun k e => .inr (by have := (hr k e).1; omega)
theorem ownFrom_at {β : Type} {B : Nat} (b : Nat) (o : β → Obj) (hb : b < B) : OwnFrom B (fun s W => W.heap[b]? = some (o s)) := fun s W W' row hs hg hr => by
  show W'.heap[b]? = some (o s)
  rw [hg.block b (ltOf hs) (fun e => by have := (hr b e.symm).1; omega)]; exact hs

theorem finRange_take (m k : Nat) (h : k < m) : (List.finRange m).take (k + 1) = (List.finRange m).take k ++ [⟨k, h⟩] := by
  rw [List.take_succ_eq_append_getElem (by simpa using h)]; simp

/-- The law for a loop over a function, the frame behind the assignment given as a change of the frame before it. -/
theorem rangeG {F : Fence} {n : Nat} {P : Program} {α : Type} {g : Operand} {ps : Array Tmp} {assign body : Code} {Q : Exit → Act → World → Prop} {tm : Array Value} {w : World}
    (hro : F.round = none) (h1 : 1 ≤ n) {gf : Nat} {lb : Array Value} (hg : Act.eval { tmps := tm, defers := [] } g = .func (.func gf) #[] lb) (hFg : F.fn gf) (eg : ∀ args w, (callFunc gf args).run P w = .ok (.enter gf args) w)
    {encs : α → Array Value} {Kp : World → World → Prop} {S Sp : List α → Prop} {N : Nat} {w0 : World} (hseq : SeqStopsK F (n - 1) P gf lb encs Kp S Sp N w0)
    (hKt : ∀ {A B C : World}, Kp A B → Kp B C → Kp A C) (hKb : ∀ (W : World) (l : Nat) (o o' : Obj), w.heap.size ≤ l → W.heap[l]? = some o → o.isCells = false → o.isWalk = false → Kp W (W.putObj l o')) (hb0 : Below w0.heap.size w0 w) (hps : ∀ x, (encs x).size = ps.size)
    (I : List α → World → Prop) (Ix : Code → List α → World → Prop) (hI : OwnFrom w.heap.size I) (hIx : ∀ c, OwnFrom w.heap.size (Ix c)) (h0 : I [] w) (f : α → Array Value → Array Value)
    (hassign : ∀ (l : Nat) (x : α) (W : World) (K : Act → World → Prop), K { tmps := f x tm, defers := [] } W →
      assign.wpIn (F.inRound l) (n - 1 - 1) P (Exit.then K (fun _ _ _ => False)) { tmps := (ps.zip (encs x)).foldl (fun t (p, v) => t.setIfInBounds p v) tm, defers := [] } W)
    (hbody : ∀ (l : Nat) (pre : List α) (x : α) (W : World), I pre W → pre.length < N → body.wpIn (F.inRound l) (n - 1 - 1) P (ownPostG w.heap.size Kp I Ix (pre ++ [x]) W) { tmps := f x tm, defers := [] } W)
    (hdone : ∀ (D : Nat) (xs : List α) (W : World), w.heap.size ≤ D → S xs → I xs W → W.heap[D]? = some (.deferred (some [])) → Q .normal { tmps := tm, defers := { target := .collected D, args := #[] } :: [] } W)
    (hstop : ∀ (D : Nat) (c : Code) (pre : List α) (W : World), w.heap.size ≤ D → Sp pre → Ix c pre W → W.heap[D]? = some (.deferred (some [])) → c.wpIn F n P Q { tmps := tm, defers := { target := .collected D, args := #[] } :: [] } W) :
    (Code.rangeFunc g ps assign body).wpIn F n P Q { tmps := tm, defers := [] } w :=
  wpIn_rangeFunc_ownG hro h1 hg hFg eg hseq hKt hKb hb0 hps I Ix hI hIx h0 (fun x => { tmps := f x tm, defers := [] }) hassign hbody hdone hstop

set_option maxRecDepth 100000 in
set_option maxHeartbeats 2000000 in
theorem chunk1_in (n : Nat) (hn : 1 ≤ n) (l Bs Bn g m cap : Nat) (hm : m ≤ 100000000) (hcap : 64 * m ≤ cap) (J Jx : List (Fin m) → World → Prop) (hD : ∀ pre W nq, J pre W → J pre (W.drewN nq))
    (hY : ∀ pre x W, J pre W → pre.length < m → YieldAt Fence.wide (n - 1) Tryz.prog l #[.slice (some ⟨g, 64 * x.1, none⟩) 64 64] W fun e W' =>
      (e = .returned (.bool true) ∧ J (pre ++ [x]) W' ∧ KeepT (fun k => k = Bs ∨ k = Bn) W W') ∨ (e = .returned (.bool false) ∧ Jx (pre ++ [x]) W'))
    (W : World) (fs fn : Nat × Nat) (ts tn : TypeId) (hBs : W.heap[Bs]? = some (.cells #[.slice (some ⟨g, 0, none⟩) (64 * m) cap] ts fs)) (hBn : W.heap[Bn]? = some (.cells #[.int .i64 64] tn fn)) (h0 : J [] W) :
    CallsIn Fence.wide n Tryz.prog 132 #[.func (.yield l) #[] #[], .pointer (some ⟨Bs, 0, none⟩), .pointer (some ⟨Bn, 0, none⟩)] W fun e W' => (∃ v, e = .returned v) ∧
      ((∃ ys, ys = List.finRange m ∧ J ys W') ∨ (∃ pre, True ∧ Jx pre W')) := by
  have HBs := Lib.hid hBs
  have HBn := Lib.hid hBn
  clear hBs hBn
  refine callsIn_of_wp Tryz.func132 rfl trivial ?_ rfl
  simp only [Tryz.ntmps132, List.size_toArray, List.length_cons, List.length_nil, Nat.reduceAdd, Nat.reduceSub, Array.replicate_succ, Array.replicate_zero, List.push_toArray, List.append_toArray, List.nil_append, List.cons_append]
  gi_wp2
  gi_loopw [4, 5] (fun i _ wr => ∃ k : Nat, k ≤ m ∧ i = .int .i64 (64 * (k : Int)) ∧ J ((List.finRange m).take k) wr ∧ KeepT (fun k => k = Bs ∨ k = Bn) W wr)
    (fun i _ _ => 64 * m - (intOf i).toNat)
  case atStart => exact ⟨0, Nat.zero_le _, by simp, by simpa using h0, KeepT.refl _ _⟩
  case round =>
    obtain ⟨k, hk, rfl, hJs, hkt⟩ := hrel
    have cs : wr.cell? ⟨Bs, 0, none⟩ = some (.slice (some ⟨g, 0, none⟩) (64 * m) cap) := by rw [cellOf ((hkt.2 Bs (.inl rfl)).trans HBs.out)]; rfl
    have cn : wr.cell? ⟨Bn, 0, none⟩ = some (.int .i64 64) := by rw [cellOf ((hkt.2 Bn (.inr rfl)).trans HBn.out)]; rfl
    have HKT := Lib.hid hkt
    clear hkt
    by_cases hlt : k < m
    · have q0 : 64 * (k : Int) + 64 ≤ 64 * (m : Int) := by omega
      have q1 : (64 * (k : Int)).toNat = 64 * k := by omega
      have q2 : 64 * (k : Int) ≤ 64 * (m : Int) := by omega
      have q3 : 64 * k ≤ 64 * m := by omega
      have q4 : 64 ≤ 64 * m - 64 * k := by omega
      gi_wp2
      gi_quiet (fail)
      obtain ⟨fn, tmps, assign, body, hy, hR⟩ := hY _ ⟨k, hlt⟩ (wr.drewN nq) (hD _ _ nq hJs) (by simp; omega)
      dsimp only at hy
      replace cs : (wr.drewN nq).cell? ⟨Bs, 0, none⟩ = some (.slice (some ⟨g, 0, none⟩) (64 * m) cap) := cs
      have HKT2 : Hid (KeepT (fun k => k = Bs ∨ k = Bn) W (wr.drewN nq)) := HKT
      clear HKT cn hJs
      generalize wr.drewN nq = W2 at *
      have q5 : 64 * (k : Int) + 64 ≤ (cap : Int) := by omega
      have q6 : 64 * k + 64 - 64 * k = 64 := by omega
      have q7 : (64 * (k : Int) + 64).toNat = 64 * k + 64 := by omega
      gi_wp2
      refine hR.mono ?_
      rintro e W3 (⟨rfl, hJ3, hk3⟩ | ⟨rfl, hJx3⟩)
      · have HK3 := Lib.hid (HKT2.out.trans hk3)
        have cn3 : W3.cell? ⟨Bn, 0, none⟩ = some (.int .i64 64) := by rw [cellOf ((HK3.out.2 Bn (.inr rfl)).trans HBn.out)]; rfl
        clear hk3
        gi_wp2
        go_roundw
        case rel => exact ⟨k + 1, by omega, by go_num, by rw [finRange_take m k hlt]; exact hJ3, HK3.out⟩
        case measure => simp [intOf]; omega
      · gi_wp2
        refine bodyPost_ret (results_none rfl _ _ _) rfl ?_
        exact ⟨⟨_, rfl⟩, .inr ⟨_, trivial, hJx3⟩⟩
    · obtain rfl : k = m := by omega
      gi_wp2
      go_end0
      exact ⟨⟨_, rfl⟩, .inl ⟨_, rfl, by rwa [List.take_of_length_le (by simp)] at hJs⟩⟩

theorem chunk_stops (n : Nat) (hn : 1 ≤ n) (Bs Bn g m cap : Nat) (hm : m ≤ 100000000) (hcap : 64 * m ≤ cap) (w : World) (fs fn : Nat × Nat) (ts tn : TypeId)
    (hBs : w.heap[Bs]? = some (.cells #[.slice (some ⟨g, 0, none⟩) (64 * m) cap] ts fs)) (hBn : w.heap[Bn]? = some (.cells #[.int .i64 64] tn fn)) :
    SeqStopsK Fence.wide n Tryz.prog 132 #[.pointer (some ⟨Bs, 0, none⟩), .pointer (some ⟨Bn, 0, none⟩)] (fun x : Fin m => #[Value.slice (some ⟨g, 64 * x.1, none⟩) 64 64]) (KeepT (fun k => k = Bs ∨ k = Bn))
      (fun ys => ys = List.finRange m) (fun _ => True) m w := fun l J Jx W hW hJ _ hY h0 =>
  chunk1_in n hn l Bs Bn g m cap hm hcap J Jx (fun pre W nq h => hJ pre W _ none h ⟨rfl, rfl, rfl, Nat.le_refl _, fun _ _ _ => rfl⟩ (fun r e => by cases e)) hY W fs fn ts tn (by rw [hW.block _ (ltOf hBs)]; exact hBs) (by rw [hW.block _ (ltOf hBn)]; exact hBn) h0

set_option maxHeartbeats 1000000 in
/-- slices.Chunk(s, 64): two boxes, and a function value that captures them. -/
theorem Chunk_any (v : Value) (hv : v.oneCell' = true) (w : World) :
    Calls Tryz.prog 110 #[v, .int .i64 64] w fun e w' => e = .returned (.func (.func 132) #[] #[.pointer (some ⟨w.heap.size, 0, none⟩), .pointer (some ⟨w.heap.size + 1, 0, none⟩)]) ∧
      (w.alloc (.cells #[v] 39)).alloc (.cells #[.int .i64 64] 3) = w' := by
  go_enter Tryz.func110, Tryz.ntmps110
  go_wp2
  go_ret
  exact ⟨rfl, rfl⟩
end Go.Proofs.YthlmgookaljgnaaGreatDoor
namespace Go.Proofs.YthlmgookaljgnaaGreatDoor
open Go.RowKit Go.Shelf
set_option linter.unusedVariables false

attribute [local go_sem] Oper.semAt_some

def sumB (s : ByteArray) : ByteArray := ⟨(Sha.sum s.data.toList).toArray⟩
theorem sumB_size (s : ByteArray) : (sumB s).size = 32 := by
  show (Sha.sum s.data.toList).toArray.size = 32
  rw [List.size_toArray, Sha.sum_length]

theorem Tryz.infoByte' : (Tryz.prog.info? 5).map (fun i => (i.zero, i.size, i.bytes)) = some (some (.int .u8 0), 1, 1) := by kernel_rfl

/-- The padded string, so far. -/
structure PadS (w : World) (l : List Nat) (v : Value) (wr : World) : Prop where
  row : BRow wr (w.heap.size + 1) v l
  h0 : wr.heap[w.heap.size]? = some (.cells (wv Sha.H0).toArray 177 (0, 0))
  below : Below w.heap.size w wr
theorem PadS.push {w wr w' : World} {l l' : List Nat} {v v' : Value} (h : PadS w l v wr) (o : Obj) (hr : BRow w' (w.heap.size + 1) v' l') (hg : (wr.alloc o).grownBy w' v.ownBlock) : PadS w l' v' w' := by
  obtain ⟨g, cap, rfl, hb, _⟩ := h.row.cell
  have hlt := ltOf h.h0
  refine ⟨hr, ?_, ?_⟩
  · rw [hg.block _ (by simp; omega) (by simp [Value.ownBlock]; omega), allocOld hlt]; exact h.h0
  · exact (h.below.alloc (by omega) o).grown hg (by simp; omega) (fun k e => by have e' : g = k := Option.some.inj e; omega)
theorem Upd.below' {S : Nat → Prop} {a b : World} {n : Nat} (h : Upd S a b) (hn : n ≤ a.heap.size) (hS : ∀ i, i < n → ¬ S i := by intro i hi; omega) : Below n a b :=
  ⟨h.os, h.tape, h.output, h.size, fun i hi => h.block i (by omega) (hS i hi)⟩
def vlen : Value → Nat
  | .slice _ n _ => n
  | _ => 0

theorem be8_take (n k : Nat) (hk : k < 8) : (Sha.be8 n).take (k + 1) = (Sha.be8 n).take k ++ [n / 2 ^ (56 - 8 * k) % 256] := by
  rw [List.take_succ_eq_append_getElem (by simpa [Sha.be8] using hk)]
  congr 2
  match k, hk with
  | 0, _ => rfl
  | 1, _ => rfl
  | 2, _ => rfl
  | 3, _ => rfl
  | 4, _ => rfl
  | 5, _ => rfl
  | 6, _ => rfl
  | 7, _ => rfl

/-- The blocks of a list of bytes, one after the other. -/
def blocks {m : Nat} (b : List Nat) (pre : List (Fin m)) (H : List Nat) : List Nat := pre.foldl (fun h x => Sha.blk h ((b.drop (64 * x.1)).take 64)) H

theorem blocks_snoc {m : Nat} (b : List Nat) (pre : List (Fin m)) (x : Fin m) (H : List Nat) : blocks b (pre ++ [x]) H = Sha.blk (blocks b pre H) ((b.drop (64 * x.1)).take 64) := by simp [blocks]
theorem blocks_ok {m : Nat} (b : List Nat) : ∀ (pre : List (Fin m)) (H : List Nat), H.length = 8 → Sha.small H → (blocks b pre H).length = 8 ∧ Sha.small (blocks b pre H)
  | [], _, h1, h2 => ⟨h1, h2⟩
  | _ :: pre, H, h1, _ => blocks_ok b pre _ (Sha.blk_length _ _ h1) (Sha.addV_small _ _)
theorem blocks_take {m : Nat} (b H : List Nat) : ∀ k, k ≤ m → blocks b ((List.finRange m).take k) H = Sha.run k H b
  | 0, _ => rfl
  | k + 1, hk => by rw [finRange_take m k (by omega), blocks_snoc, blocks_take b H k (by omega), Sha.run_succ]
theorem blocks_run {m : Nat} (b H : List Nat) : blocks b (List.finRange m) H = Sha.run m H b := by
  have := blocks_take (m := m) b H m (Nat.le_refl _)
  rwa [List.take_of_length_le (by simp)] at this
theorem keepsFrom_of_upd {S : Nat → Prop} {B : Nat} {W W' : World} (h : Upd S W W') (hS : ∀ k, S k → k < B) : KeepsFrom B W W' :=
  ⟨h.size, fun i o hB hi _ => by rw [h.block i (ltOf hi) (fun hs => by have := hS i hs; omega)]; exact hi⟩

set_option maxRecDepth 100000 in
set_option maxHeartbeats 4000000 in
theorem Sum_any (s : ByteArray) (hs : s.size ≤ 1000000) (w : World) (hR : RoundLaid w) :
    Calls Tryz.prog 97 #[.string s] w fun e w' => e = .returned (.string (sumB s)) ∧ Below w.heap.size w w' := by
  refine callsIn_wide (n := 9) |>.1 ?_
  refine callsIn_of_wp_marks Tryz.func97 rfl trivial ?_ rfl
  refine wpIn_wide.2 ?_
  simp only [Tryz.ntmps97, List.size_toArray, List.length_cons, List.length_nil, Nat.reduceAdd, Nat.reduceSub, Array.replicate_succ, Array.replicate_zero, List.push_toArray, List.append_toArray, List.nil_append, List.cons_append]
  have HR := Lib.hid hR
  clear hR
  have HL : Hid ((Sha.nats s.data.toList).length = s.size) := Lib.hid (by rw [Sha.nats, List.length_map]; rfl)
  go_wp2_with (first
    | (refine wpList_string_bytes rfl 9 39 (.tmp 8) rfl Tryz.underlying9 Tryz.underlying39 Tryz.underlying5 s rfl ?_
       intro cap W1 hrow hbel hsz
       have R1 : Hid (BRow W1 (w.heap.size + 1) (.slice (some ⟨w.heap.size + 1, 0, none⟩) s.size cap) (Sha.nats s.data.toList)) := Lib.hid (by simpa using hrow.out)
       have S1 : W1.heap.size = w.heap.size + 2 := by simpa using hsz.out
       have B1 : Hid (Below w.heap.size w W1) := Lib.hid (((Below.refl _ w).alloc (Nat.le_refl _) _).trans (hbel.out.mono (by simp)))
       have H1 : Hid (W1.heap[w.heap.size]? = some (.cells (wv Sha.H0).toArray 177 (0, 0))) := Lib.hid (by rw [hbel.out.block _ (by simp)]; exact allocAt _ rfl)
       have z1 : w.heap.size + 1 < W1.heap.size := by omega
       have HS1 := Lib.hid S1
       clear hrow hbel hsz S1)
    | (refine wpList_brow_push rfl (.tmp 9) (.tmp 10) 39 rfl Tryz.underlying39 Tryz.infoByte' (w.heap.size + 1) _ _ rfl (R1.out.upd (Upd.alloc (S := fun _ => False) (Upd.refl _ W1) _) (fun _ _ h => h)) W1.heap.size 1 128 rfl (by rw [World.cell?_alloc_new]; rfl) (by rw [HL.out]; omega) (by simp; omega) ?_
       intro v1 W2 hrow hgr
       have U2 : Hid (Upd (fun k => k = w.heap.size + 1) W1 W2) := Lib.hid ((Upd.alloc (Upd.refl _ W1) _).grown hgr.out (fun k e => .inl (by injection e with e; exact e.symm)))
       clear hgr))
  have P0 : Hid (PadS w (Sha.nats s.data.toList ++ 128 :: List.replicate 0 0) v1 W2) :=
    Lib.hid ⟨hrow.out, by rw [U2.out.block _ (ltOf H1.out) (by omega)]; exact H1.out, B1.out.trans (U2.out.below' (by omega))⟩
  clear R1 H1 hrow U2 B1 z1 HS1
  have HNB := Lib.hid (Sha.pad_bytes _ (Sha.nats_bytes s.data.toList))
  generalize hNN : Sha.nats s.data.toList = N at *
  have HNN := Lib.hid hNN
  clear hNN
  go_loopw [4, 16, 17, 18] (fun v _ _ _ wr => ∃ k : Nat, k ≤ Sha.zeros s.size ∧ PadS w (N ++ 128 :: List.replicate k 0) v wr) (fun v _ _ _ _ => s.size + 1 + Sha.zeros s.size - vlen v)
  case atStart => exact ⟨0, by omega, P0.out⟩
  case round =>
    clear P0
    obtain ⟨k, hk, hP⟩ := hrel
    obtain ⟨g, cap, hv, hgb, hgl, hcap, _⟩ := hP.row.cell
    have hlen : (N ++ 128 :: List.replicate k 0).length = s.size + 1 + k := by simp [HL.out]; omega
    rw [hlen] at hv hcap
    obtain ⟨p, hp⟩ : ∃ p, s.size + 1 + k = p := ⟨_, rfl⟩
    rw [hp] at hv hcap
    subst hv
    have HP := Lib.hid hP
    have HLEN := Lib.hid hlen
    clear hP hlen
    have hz : Sha.zeros s.size < 64 := Nat.mod_lt _ (by decide)
    have hpb : p ≤ 2000000 := by omega
    by_cases hlt : k < Sha.zeros s.size
    · have hm : ((p : Int) % 64 == 56) = false := by
        unfold Sha.zeros at hlt hk
        have : ¬ (p : Int) % 64 = 56 := by omega
        simpa using this
      have Hp := Lib.hid hp
      clear hp
      go_wp2_with (at_builtin; refine wpList_brow_push rfl (.tmp 16) (.tmp 17) 39 rfl Tryz.underlying39 Tryz.infoByte' (w.heap.size + 1) _ _ rfl (HP.out.row.upd (Upd.alloc (S := fun _ => False) (Upd.refl _ wr) _) (fun _ _ h => h)) wr.heap.size 1 0 rfl (by rw [World.cell?_alloc_new]; rfl) (by rw [HLEN.out, Hp.out]; omega) (by simp; omega) ?_; intro v2 W3 hrow hgr)
      go_roundw
      case rel => exact ⟨k + 1, by omega, by rw [List.replicate_succ', ← List.cons_append, ← List.append_assoc]; exact HP.out.push _ hrow.out hgr.out⟩
      case measure =>
        obtain ⟨g2, cap2, hv2, _⟩ := hrow.out.cell
        have := HLEN.out
        have := Hp.out
        subst hv2
        simp only [List.length_append, List.length_singleton, HLEN.out, vlen]
        omega
    · obtain rfl : k = Sha.zeros s.size := by omega
      have hm : ((p : Int) % 64 == 56) = true := by
        unfold Sha.zeros at hp
        have : (p : Int) % 64 = 56 := by omega
        simpa using this
      have hm2 : ((p : Int) % 64 != 56) = false := by simpa using hm
      have Hp := Lib.hid hp
      clear hp
      go_wp2
      have P1 : Hid (PadS w (N ++ 128 :: List.replicate (Sha.zeros s.size) 0 ++ (Sha.be8 (8 * s.size)).take 0) (.slice (some ⟨g, 0, none⟩) p cap) wr) := Lib.hid (by simpa using HP.out)
      have HLP : Hid ((N ++ 128 :: List.replicate (Sha.zeros s.size) 0).length = p) := Lib.hid (by rw [HLEN.out, Hp.out])
      have HN := Lib.hid (show Sha.pad N = N ++ 128 :: List.replicate (Sha.zeros s.size) 0 ++ Sha.be8 (8 * s.size) by rw [Sha.pad, HL.out]; simp)
      clear HP HLEN hm hm2
      generalize N ++ 128 :: List.replicate (Sha.zeros s.size) 0 = L0 at *
      obtain ⟨wo, rfl⟩ : ∃ wo : World, wo = wr := ⟨_, rfl⟩
      go_loopw [4, 5, 23, 24, 25, 26, 27, 28, 29, 30, 31, 32] (fun v i _ _ _ _ _ _ _ _ _ _ wr => ∃ k : Nat, k ≤ 8 ∧ i = .int .i64 (7 - (k : Int)) ∧ PadS w (L0 ++ (Sha.be8 (8 * s.size)).take k) v wr) (fun _ i _ _ _ _ _ _ _ _ _ _ _ => (intOf i + 1).toNat)
      case atStart => exact ⟨0, by omega, rfl, P1.out⟩
      case round =>
        clear P1
        obtain ⟨k, hk, rfl, hP⟩ := hrel
        obtain ⟨g, cap, hv, hgb, hgl, hcap, _⟩ := hP.row.cell
        have hlen : (L0 ++ (Sha.be8 (8 * s.size)).take k).length = p + k := by rw [List.length_append, HLP.out, List.length_take]; simp [Sha.be8]; omega
        rw [hlen] at hv hcap
        subst hv
        have HP := Lib.hid hP
        have HLEN := Lib.hid hlen
        clear hP hlen
        by_cases hlt : k < 8
        · have q0 : 0 ≤ 7 - (k : Int) := by omega
          have q1 : (k : Int) ≤ 7 := by omega
          have q2 : 0 ≤ 8 * (7 - (k : Int)) := by omega
          have q3 : (8 * (7 - (k : Int))).toNat = 56 - 8 * k := by omega
          have q4 : min (56 - 8 * k) 64 = 56 - 8 * k := by omega
          have hsz : (s.size : Int) ≤ 1000000 := by omega
          go_wp2_with (at_builtin; refine wpList_brow_push rfl (.tmp 23) (.tmp 31) 39 rfl Tryz.underlying39 Tryz.infoByte' (w.heap.size + 1) _ _ rfl (HP.out.row.upd (Upd.alloc (S := fun _ => False) (Upd.refl _ wr) _) (fun _ _ h => h)) wr.heap.size 1 (8 * s.size / 2 ^ (56 - 8 * k) % 256) rfl (by rw [World.cell?_alloc_new]; simp) (by rw [HLEN.out]; omega) (by simp; omega) ?_; intro v2 W3 hrow hgr)
          go_roundw
          case rel => exact ⟨k + 1, by omega, by go_num, by rw [be8_take _ k hlt, ← List.append_assoc]; exact HP.out.push _ hrow.out hgr.out⟩
          case measure => simp [intOf]; omega
        · obtain rfl : k = 8 := by omega
          rw [show (7 : Int) - ((8 : Nat) : Int) = -1 from rfl]
          obtain ⟨m, hm⟩ : ∃ m, m = (s.size + 72) / 64 := ⟨_, rfl⟩
          have e8 : p + 8 = 64 * m := by have := Hp.out; subst hm; unfold Sha.zeros at this; omega
          rw [e8] at hcap ⊢
          have hrow := HP.out.row
          rw [e8] at hrow
          rw [List.take_of_length_le (by simp [Sha.be8]), ← HN.out] at hrow
          have hpl : (Sha.pad N).length = 64 * m := by rw [Sha.pad_length, HL.out, hm]; omega
          have hmb : m ≤ 100000000 := by omega
          have HM := Lib.hid hm
          have HROW := Lib.hid hrow
          have HPL := Lib.hid hpl
          clear hm e8 hrow hpl HLEN
          go_wp2_with fail
          refine (Chunk_any _ rfl wr).mono ?_
          rintro e W4 ⟨rfl, hW4⟩
          have HW4 := Lib.hid hW4
          clear hW4
          go_wp2
          have w4 := HW4.out
          have hBs : W4.heap[wr.heap.size]? = some (.cells #[.slice (some ⟨g, 0, none⟩) (64 * m) cap] 39 (0, 0)) := by rw [← w4, allocOld (by simp)]; exact allocAt _ rfl
          have hBn : W4.heap[wr.heap.size + 1]? = some (.cells #[.int .i64 64] 3 (0, 0)) := by rw [← w4]; exact allocAt _ (by simp)
          have hP4 : PadS w (Sha.pad N) (.slice (some ⟨g, 0, none⟩) (64 * m) cap) W4 := by
            rw [← w4]
            have hu : Upd (fun _ => False) wr ((wr.alloc (.cells #[.slice (some ⟨g, 0, none⟩) (64 * m) cap] 39)).alloc (.cells #[.int .i64 64] 3)) := ((Upd.refl _ wr).alloc _).alloc _
            exact ⟨HROW.out.upd hu (fun _ _ h => h), by rw [hu.block _ (ltOf HP.out.h0) (fun h => h)]; exact HP.out.h0, HP.out.below.trans (hu.below' (Nat.le_of_lt (ltOf HP.out.h0)) (fun _ _ h => h))⟩
          have hsz : W4.heap.size = wr.heap.size + 2 := by rw [← w4]; simp
          have hR4 : RoundLaid W4 := HR.out.below hP4.below
          have hdat : ∀ W, Upd (· = w.heap.size) W4 W → ∀ j, j < 64 * m → W.cell? ⟨g, j, none⟩ = some (.int .u8 ((Sha.pad N).getD j 0 : Nat)) := fun W hU j hj => by
            obtain ⟨g', cap', e, hb', hlt', _, hc'⟩ := hP4.row.cell
            injection e with e1 e2 e3
            injection e1 with e1
            injection e1 with e1
            subst e1
            exact hU.cell (hc' j (by rw [HPL.out]; exact hj)) (by show ¬ g = w.heap.size; omega)
          have hg0 : w.heap.size < wr.heap.size := ltOf HP.out.h0
          have hg1 : g ≠ w.heap.size := by omega
          have hgl : ¬ 3 = w.heap.size := by have := ltOf HR.out.choose_spec; omega
          have HBs := Lib.hid hBs
          have HBn := Lib.hid hBn
          have HP4 := Lib.hid hP4
          have HSZ := Lib.hid hsz
          have HR4 := Lib.hid hR4
          have HD := Lib.hid hdat
          have hgl4 : g < W4.heap.size := by omega
          have hw4 : w.heap.size < W4.heap.size := by omega
          clear w4 hBs hBn hP4 hsz hR4 hdat HW4 HP
          refine (wpIn_wide (n := 9)).1 ?_
          refine rangeG rfl (by omega) (gf := 132) (lb := #[.pointer (some ⟨wr.heap.size, 0, none⟩), .pointer (some ⟨wr.heap.size + 1, 0, none⟩)]) rfl trivial (enters_of Tryz.func132 (by kernel_rfl) rfl)
            (chunk_stops 8 (by omega) wr.heap.size (wr.heap.size + 1) g m cap hmb hcap W4 _ _ _ _ HBs.out HBn.out) KeepT.trans (KeepT.putObj (by have := HSZ.out; intro k hk; omega)) (Below.refl _ _) (fun _ => rfl)
            (fun (pre : List (Fin m)) W => W.heap[w.heap.size]? = some (.cells (wv (blocks (Sha.pad N) pre Sha.H0)).toArray 177 (0, 0)) ∧ Upd (· = w.heap.size) W4 W)
            (fun _ _ _ => False)
            (OwnFrom.and (ownFrom_at w.heap.size (fun pre => .cells (wv (blocks (Sha.pad N) pre Sha.H0)).toArray 177 (0, 0)) hw4) (ownFrom_upd (Nat.le_refl _)))
            (fun _ _ _ _ _ hs _ _ => hs)
            ⟨HP4.out.h0, Upd.refl _ _⟩
            (fun x T => (T.setIfInBounds 35 (.slice (some ⟨g, 64 * x.1, none⟩) 64 64)).setIfInBounds 6 (.slice (some ⟨g, 64 * x.1, none⟩) 64 64)) ?assign ?body ?done ?stop
          case assign =>
            intro l x W K hK
            simp only [List.setIfInBounds_toArray, List.set_cons_zero, List.set_cons_succ] at hK
            gi_wp2
            exact hK
          case body =>
            rintro l pre x W ⟨hh, hU⟩ hlt
            have HH := Lib.hid hh
            have HU := Lib.hid hU
            clear hh hU
            simp only [List.setIfInBounds_toArray, List.set_cons_zero, List.set_cons_succ]
            have hx := x.2
            gi_wp2
            refine ⟨trivial, ?_⟩
            obtain ⟨b1, b2⟩ := blocks_ok (Sha.pad N) pre Sha.H0 rfl Sha.H0_small
            have hbl : (((Sha.pad N).drop (64 * x.1)).take 64).length = 64 := by rw [List.length_take, List.length_drop, HPL.out]; omega
            have hby : Sha.bytes (((Sha.pad N).drop (64 * x.1)).take 64) := fun y hy => HNB.out y (List.mem_of_mem_drop (List.mem_of_mem_take hy))
            have hba : BytesAt W g (64 * x.1) (((Sha.pad N).drop (64 * x.1)).take 64) := fun i hi => by
              rw [hbl] at hi
              rw [HD.out W HU.out (64 * x.1 + i) (by omega)]
              simp only [List.getD_eq_getElem?_getD, List.getElem?_take, if_pos hi, List.getElem?_drop]
            refine (CallsIn.inRound l (callsIn_wide.2 (add_any _ b1 b2 w.heap.size _ hby hbl g (64 * x.1) 64 W (Nat.lt_of_lt_of_le hgl4 HU.out.size) hba HH.out (HR4.out.upd HU.out hgl)))).mono ?_
            rintro e W' ⟨rfl, h1, h2⟩
            have H1 := Lib.hid h1
            have H2 := Lib.hid h2
            clear h1 h2
            gi_wp2
            exact ⟨keepsFrom_of_upd H2.out (fun k hk => by have hk' : k = w.heap.size := hk; omega), KeepT.of_upd H2.out (fun k hk => ⟨by have := HU.out.size; have := HSZ.out; omega, fun e => by have hk' : k = w.heap.size := e; omega⟩), by rw [blocks_snoc]; exact H1.out, HU.out.trans H2.out (fun _ _ h => h)⟩
          case done =>
            rintro D ys W hD rfl ⟨hh, hU⟩ hK
            have hv : ∃ vs, (wv (blocks (Sha.pad N) (List.finRange m) Sha.H0)).toArray = vs := ⟨_, rfl⟩
            obtain ⟨b1, b2⟩ := blocks_ok (Sha.pad N) (List.finRange m) Sha.H0 rfl Sha.H0_small
            have DG := Lib.hid (fun W => dig_any _ b1 b2 W)
            have FIN : Hid ((blocks (Sha.pad N) (List.finRange m) Sha.H0).flatMap Sha.be4 = Sha.sumN N) := Lib.hid (by rw [blocks_run]; rw [Sha.sumN, HL.out, ← HM.out])
            generalize blocks (Sha.pad N) (List.finRange m) Sha.H0 = HH at *
            obtain ⟨vs, hvs⟩ := hv
            have i2 : (Tryz.prog.info? 177).map (·.size) = some vs.size := by rw [← hvs, List.size_toArray, wv_length, b1]; exact Tryz.size8
            rw [hvs] at hh DG
            have HVS := Lib.hid hh
            have I2 := Lib.hid i2
            have HU := Lib.hid hU
            have HK := Lib.hid hK
            clear hvs hh i2 hU hK b1 b2
            go_wp2_with (first
              | (refine wpList_load_row rfl 177 (.tmp 3) rfl w.heap.size rfl 177 vs (0, 0) _ HVS.out Tryz.underlying177 rfl I2.out ?_)
              | fail)
            refine (DG.out W).mono ?_
            rintro e W' ⟨rfl, h2⟩
            have H2 := Lib.hid h2
            clear h2
            go_wp2
            have hK2 : W'.heap[D]? = some (.deferred (some [])) := by rw [H2.out.block D (ltOf HK.out)]; exact HK.out
            refine ⟨by simp, .inl ⟨_, _, rfl, run_takeDeferred hK2, ?_⟩⟩
            have hW : Below w.heap.size w W' := (HP4.out.below.trans (HU.out.below' (by omega) (by intro i hi h; omega))).trans (H2.out.mono (by have := HU.out.size; omega))
            have e : (⟨(List.map UInt8.ofNat (List.flatMap Sha.be4 HH)).toArray⟩ : ByteArray) = sumB s := by rw [FIN.out, ← HNN.out]; rfl
            rw [e]
            exact ⟨_, results_tmp rfl _ _ _, rfl, hW.trans (belowK_b (w := w) (Nat.le_refl _) W' D _ _ (by omega) hK2 rfl rfl)⟩
          case stop =>
            rintro D c pre W _ _ h _
            exact h.elim
end Go.Proofs.YthlmgookaljgnaaGreatDoor
namespace Go.Proofs.YthlmgookaljgnaaGreatDoor
open Go.RowKit
set_option linter.unusedVariables false

theorem Tryz.infoW : (Tryz.prog.info? 156).map (fun i => (i.zero, i.size, i.bytes)) = some (some (.int .u32 0), 1, 4) := by kernel_rfl

/-- A slice that reads as a list of words. -/
structure NL (w : World) (sv : Value) (l : List Nat) : Prop where
  form : ∃ b off cap, sv = .slice (some ⟨b, off, none⟩) l.length cap ∧ l.length ≤ cap ∧ b < w.heap.size ∧ ∀ (j : Nat) (x : Nat), l[j]? = some x → w.cell? ⟨b, off + j, none⟩ = some (.int .u32 (x : Int))
theorem NL.below {w w' : World} {sv : Value} {l : List Nat} (h : NL w sv l) (hb : Below w.heap.size w w') : NL w' sv l := by
  obtain ⟨b, off, cap, e, h1, hlt, hc⟩ := h.form
  exact ⟨b, off, cap, e, h1, Nat.lt_of_lt_of_le hlt hb.size, fun j x hj => (hb.cell (p := ⟨b, off + j, none⟩) hlt).trans (hc j x hj)⟩
theorem NL.lit (w : World) (l : List Nat) (t : TypeId) : NL (w.alloc (.cells (wv l).toArray t)) (.slice (some ⟨w.heap.size, 0, none⟩) l.length l.length) l :=
  ⟨_, 0, _, rfl, Nat.le_refl _, by simp, fun j x hj => by rw [Nat.zero_add, cellOf (allocAt _ rfl)]; simp [wv, hj]⟩
theorem NL.own {w : World} {base n : Nat} {v : Value} {l : List Nat} (h : w.ownsRow base 156 1 v n (wv l)) (hl : l.length = n) (hn : 0 < n) : NL w v l := by
  rcases h.2 with ⟨rfl, _⟩ | ⟨g, c, cur, rfl, hb, hg, h1, h2, _⟩
  · omega
  · refine ⟨g, 0, c, by rw [hl], by omega, ltOf hg, fun j x hj => ?_⟩
    have := h.cells (g := g) rfl j (.int .u32 (x : Int)) (by simp [wv, hj])
    have ha : (⟨g, 0, none⟩ : Addr).add j = ⟨g, 0 + j, none⟩ := by unfold Addr.add; split <;> simp_all
    rwa [ha] at this

theorem rot_end2 (x n : Nat) (hx : x < 4294967296) (h1 : 1 ≤ n) (h2 : n ≤ 31) :
    bits .or .u32 ((x : Int) / 2 ^ n) ((x : Int) * 2 ^ (32 - n) % 4294967296) = ((Sha.rotr x n : Nat) : Int) := by
  have e1 : (x : Int) * 2 ^ (32 - n) % 4294967296 = ((x * 2 ^ (32 - n) % 4294967296 : Nat) : Int) := by simp
  have e2 : (x : Int) / 2 ^ n = ((x / 2 ^ n : Nat) : Int) := by simp
  rw [e1, e2, u32_or_nat _ _ (Nat.lt_of_le_of_lt (Nat.div_le_self _ _) hx) (Nat.mod_lt _ (by decide)), Sha.rotr]
set_option maxHeartbeats 1000000 in
theorem rotated_any (x n : Nat) (z : Int) (hz : z = (n : Int)) (w : World) (hx : x < 4294967296) (h1 : 1 ≤ n) (h2 : n ≤ 31) :
    Calls Tryz.prog 115 #[.int .u32 (x : Int), .int .i64 z] w fun e w' => e = .returned (.int .u32 (Sha.rotr x n : Nat)) ∧ ∃ k, w' = w.drewN k := by
  subst hz
  have E := Lib.hid (rot_end2 x n hx h1 h2)
  have q0 : 0 ≤ 32 - (n : Int) := by omega
  have q1 : (32 - (n : Int)).toNat = 32 - n := by omega
  have q2 : IntKind.i64.wrap (32 - (n : Int)) = 32 - (n : Int) := IntWalk.i64_in _ (by omega)
  go_enter Tryz.func115, Tryz.ntmps115
  go_wp2
  go_quiet (fail)
  clear q2
  go_wp2
  go_ret
  exact ⟨ret_int E.out, _, rfl⟩

set_option maxRecDepth 100000 in
set_option maxHeartbeats 1000000 in
theorem constants_any (w : World) :
    Calls Tryz.prog 116 #[] w fun e w' => e = .returned (.slice (some ⟨w.heap.size, 0, none⟩) 64 64) ∧ w.alloc (.cells (wv Sha.K).toArray 156) = w' := by
  go_enter Tryz.func116, Tryz.ntmps116
  go_wp2
  go_ret
  exact ⟨rfl, rfl⟩
end Go.Proofs.YthlmgookaljgnaaGreatDoor
namespace Go.Proofs.YthlmgookaljgnaaGreatDoor
open Go.RowKit
set_option linter.unusedVariables false

theorem news_one {w : World} {x y : Value} {t : TypeId} (h : x = y) : ∀ j u, [y][j]? = some u → (w.alloc (.cells #[x] t)).cell? ((⟨w.heap.size, 0, none⟩ : Addr).add j) = some u := by subst h; exact cell_one_new _ _ _
theorem nats_take (s : ByteArray) (k : Nat) (h : k < s.size) : (Sha.nats s.data.toList).take (k + 1) = (Sha.nats s.data.toList).take k ++ [s[k].toNat] := by
  unfold Sha.nats
  rw [← List.map_take, ← List.map_take, List.take_succ_eq_append_getElem (by simpa using h), List.map_append]; rfl
theorem nats_len (s : ByteArray) : (Sha.nats s.data.toList).length = s.size := by rw [Sha.nats, List.length_map]; rfl

/-- A row of bytes of the call's own. -/
structure OB (w : World) (l : List Nat) (n : Nat) (v : Value) (wr : World) : Prop where
  row : wr.ownsRow w.heap.size 5 1 v n (nv l)
  below : Below w.heap.size w wr
theorem OB.push {w wr w' : World} {l l' : List Nat} {n n' : Nat} {v v' : Value} (h : OB w l n v wr) (o : Obj) (xs : List Nat) (hr : w'.ownsRow w.heap.size 5 1 v' n' (nv l ++ nv xs)) (hl : l' = l ++ xs) (hg : (wr.alloc o).grownBy w' v.ownBlock) : OB w l' n' v' w' := by
  subst hl
  exact ⟨by rw [show nv (l ++ xs) = nv l ++ nv xs by simp [nv]]; exact hr, (h.below.alloc h.below.size o).grown hg (by have := h.below.size; simp; omega) (fun k e => (h.row.lt k e).1)⟩
theorem OB.form {w wr : World} {l : List Nat} {n : Nat} {v : Value} (h : OB w l n v wr) (hn : 0 < n) : ∃ g c, v = .slice (some ⟨g, 0, none⟩) n c ∧ n ≤ c := by
  rcases h.row.2 with ⟨_, e⟩ | ⟨g, c, cur, e, _, _, hc, _⟩
  · omega
  · exact ⟨g, c, e, hc⟩

set_option maxRecDepth 100000 in
set_option maxHeartbeats 4000000 in
theorem extended_any (s : ByteArray) (hs : s.size ≤ 1000000) (w : World) :
    Calls Tryz.prog 100 #[.string s] w fun e w' => ∃ v, e = .returned v ∧ OB w (Sha.pad (Sha.nats s.data.toList)) (Sha.pad (Sha.nats s.data.toList)).length v w' := by
  obtain ⟨i0, hi, hz0, hz1, hz2⟩ := info_parts Tryz.infoByte'
  have HN0 := Lib.hid (nats_len s)
  obtain ⟨N, hN⟩ : ∃ N, Sha.nats s.data.toList = N := ⟨_, rfl⟩
  have HN := Lib.hid hN
  rw [hN] at HN0 ⊢
  clear hN
  go_enter Tryz.func100, Tryz.ntmps100
  go_wp2
  go_loopw [3, 4] (fun bv iv wr => ∃ k : Nat, iv = .int .i64 k ∧ k ≤ s.size ∧ OB w (N.take k) k bv wr) (fun _ iv _ => s.size - (intOf iv).toNat)
  case atStart => exact ⟨0, rfl, Nat.zero_le _, World.ownsRow_nil _ _ _ _, Below.refl _ _⟩
  case round =>
    obtain ⟨k, rfl, hk, hO⟩ := hrel
    have HO := Lib.hid hO
    clear hO
    by_cases h1 : k < s.size
    · have hlt : (k : Int) < (s.size : Int) := by omega
      have NT := Lib.hid (by have := nats_take s k h1; rw [HN.out] at this; exact this)
      go_wp2_with (at_builtin; refine wpList_append_own _ rfl (.tmp 12) (.tmp 16) 39 rfl w.heap.size 5 i0 _ 1 1 Tryz.underlying39 hi hz0 hz1 hz2 rfl (by decide) u3 k _ rfl (HO.out.row.alloc _) ⟨wr.heap.size, 0, none⟩ 1 1 [.int .u8 (s[k].toNat : Nat)] rfl rfl (news_one (by simp)) (by simp [Value.oneCell']) (by simp only [maxLen]; omega) (by omega) (by have := HO.out.below.size; simp; omega) ?_; intro v2 W2 hown hgr _; have O2 := Lib.hid hown; have G2 := Lib.hid hgr; clear hown hgr)
      go_roundw
      case rel => first | exact ⟨k + 1, by go_num, by omega, HO.out.push _ [s[k].toNat] O2.out NT.out G2.out⟩ | ((repeat apply Exists.intro); exact ⟨⟨k + 1, by go_num, by omega, HO.out.push _ [s[k].toNat] O2.out NT.out G2.out⟩, rfl⟩)
      case measure => simp [intOf]; omega
    · obtain rfl : k = s.size := by omega
      have P0 : Hid (OB w N s.size u3 wr) := Lib.hid (by have := HO.out; rwa [List.take_of_length_le (by rw [HN0.out]; exact Nat.le_refl _)] at this)
      clear HO
      go_wp2_with (at_builtin; refine wpList_append_own _ rfl (.tmp 18) (.tmp 19) 39 rfl w.heap.size 5 i0 _ 1 1 Tryz.underlying39 hi hz0 hz1 hz2 rfl (by decide) u3 s.size _ rfl (P0.out.row.alloc _) ⟨wr.heap.size, 0, none⟩ 1 1 [.int .u8 ((128 : Nat) : Int)] rfl rfl (news_one rfl) (by simp [Value.oneCell']) (by simp only [maxLen]; omega) (by omega) (by have := P0.out.below.size; simp; omega) ?_; intro v2 W2 hown hgr _; have O2 := Lib.hid hown; have G2 := Lib.hid hgr; clear hown hgr)
      have P1 : Hid (OB w (N ++ 128 :: List.replicate 0 0) (s.size + 1 + 0) v2 W2) := Lib.hid (P0.out.push _ [128] O2.out rfl G2.out)
      clear P0 O2 G2
      go_loopw [3] (fun v wr => ∃ k : Nat, k ≤ Sha.zeros s.size ∧ OB w (N ++ 128 :: List.replicate k 0) (s.size + 1 + k) v wr) (fun v _ => s.size + 1 + Sha.zeros s.size - vlen v)
      case atStart => exact ⟨0, by omega, P1.out⟩
      case round =>
        clear P1
        obtain ⟨k, hk, hP⟩ := hrel
        obtain ⟨g, cap, rfl, hcap⟩ := hP.form (by omega)
        have HP := Lib.hid hP
        clear hP
        obtain ⟨p, hp⟩ : ∃ p, s.size + 1 + k = p := ⟨_, rfl⟩
        rw [hp] at HP hcap ⊢
        have hz : Sha.zeros s.size < 64 := Nat.mod_lt _ (by decide)
        have hpb : p ≤ 2000000 := by omega
        have hp0 : 1 ≤ p := by omega
        by_cases hlt : k < Sha.zeros s.size
        · have hm : ((p : Int) % 64 == 56) = false := by
            unfold Sha.zeros at hlt hk
            have : ¬ (p : Int) % 64 = 56 := by omega
            simpa using this
          have Hp := Lib.hid hp
          clear hp
          go_wp2_with (at_builtin; refine wpList_append_own _ rfl (.tmp 25) (.tmp 26) 39 rfl w.heap.size 5 i0 _ 1 1 Tryz.underlying39 hi hz0 hz1 hz2 rfl (by decide) _ p _ rfl (HP.out.row.alloc _) ⟨wr.heap.size, 0, none⟩ 1 1 [.int .u8 ((0 : Nat) : Int)] rfl rfl (news_one rfl) (by simp [Value.oneCell']) (by simp only [maxLen]; omega) (by omega) (by have := HP.out.below.size; simp; omega) ?_; intro v2 W2 hown hgr _; have O2 := Lib.hid hown; have G2 := Lib.hid hgr; clear hown hgr)
          go_roundw
          case rel =>
            have R : OB w (N ++ 128 :: List.replicate (k + 1) 0) (s.size + 1 + (k + 1)) v2 W2 := by
              rw [show s.size + 1 + (k + 1) = p + 1 by have := Hp.out; omega]
              exact HP.out.push _ [0] O2.out (by rw [List.replicate_succ', ← List.cons_append, ← List.append_assoc]) G2.out
            first | exact ⟨k + 1, by omega, R⟩ | ((repeat apply Exists.intro); exact ⟨⟨k + 1, by omega, R⟩, rfl⟩)
          case measure =>
            have R : OB w (N ++ 128 :: List.replicate (k + 1) 0) (p + 1) v2 W2 := HP.out.push _ [0] O2.out (by rw [List.replicate_succ', ← List.cons_append, ← List.append_assoc]) G2.out
            obtain ⟨g2, cap2, hv2, _⟩ := R.form (by omega)
            have := Hp.out
            subst hv2
            simp only [vlen]
            omega
        · obtain rfl : k = Sha.zeros s.size := by omega
          have hm : ((p : Int) % 64 == 56) = true := by
            unfold Sha.zeros at hp
            have : (p : Int) % 64 = 56 := by omega
            simpa using this
          have hm2 : ((p : Int) % 64 != 56) = false := by simpa using hm
          have Hp := Lib.hid hp
          clear hp
          go_wp2
          have P1 : Hid (OB w (N ++ 128 :: List.replicate (Sha.zeros s.size) 0 ++ (Sha.be8 (8 * s.size)).take 0) (p + 0) (.slice (some ⟨g, 0, none⟩) p cap) wr) := Lib.hid (by simpa using HP.out)
          have HNP := Lib.hid (show Sha.pad N = N ++ 128 :: List.replicate (Sha.zeros s.size) 0 ++ Sha.be8 (8 * s.size) by rw [Sha.pad, HN0.out]; simp)
          have HPL := Lib.hid (show (Sha.pad N).length = p + 8 by rw [Sha.pad_length, HN0.out]; have := Hp.out; unfold Sha.zeros at this; omega)
          clear HP hm hm2
          generalize N ++ 128 :: List.replicate (Sha.zeros s.size) 0 = L0 at *
          obtain ⟨wo, rfl⟩ : ∃ wo : World, wo = wr := ⟨_, rfl⟩
          go_loopw [3, 5] (fun v i wr => ∃ k : Nat, k ≤ 8 ∧ i = .int .i64 (7 - (k : Int)) ∧ OB w (L0 ++ (Sha.be8 (8 * s.size)).take k) (p + k) v wr) (fun _ i _ => (intOf i + 1).toNat)
          case atStart => exact ⟨0, by omega, rfl, P1.out⟩
          case round =>
            clear P1
            obtain ⟨k, hk, rfl, hP⟩ := hrel
            obtain ⟨g, cap, rfl, hcap⟩ := hP.form (by omega)
            have HP := Lib.hid hP
            clear hP
            by_cases hlt : k < 8
            · have q0 : 0 ≤ 7 - (k : Int) := by omega
              have q1 : (k : Int) ≤ 7 := by omega
              have q2 : 0 ≤ 8 * (7 - (k : Int)) := by omega
              have q3 : (8 * (7 - (k : Int))).toNat = 56 - 8 * k := by omega
              have q4 : min (56 - 8 * k) 64 = 56 - 8 * k := by omega
              have hsz : (s.size : Int) ≤ 1000000 := by omega
              go_wp2_with (at_builtin; refine wpList_append_own _ rfl (.tmp 32) (.tmp 40) 39 rfl w.heap.size 5 i0 _ 1 1 Tryz.underlying39 hi hz0 hz1 hz2 rfl (by decide) _ (p + k) _ rfl (HP.out.row.alloc _) ⟨wr.heap.size, 0, none⟩ 1 1 [.int .u8 ((8 * s.size / 2 ^ (56 - 8 * k) % 256 : Nat) : Int)] rfl rfl (news_one (by simp)) (by simp [Value.oneCell']) (by simp only [maxLen]; omega) (by omega) (by have := HP.out.below.size; simp; omega) ?_; intro v2 W2 hown hgr _; have O2 := Lib.hid hown; have G2 := Lib.hid hgr; clear hown hgr)
              go_roundw
              case rel =>
                have R : OB w (L0 ++ (Sha.be8 (8 * s.size)).take (k + 1)) (p + (k + 1)) v2 W2 := HP.out.push _ [8 * s.size / 2 ^ (56 - 8 * k) % 256] O2.out (by rw [be8_take _ k hlt, ← List.append_assoc]) G2.out
                first | exact ⟨k + 1, by omega, by go_num, R⟩ | ((repeat apply Exists.intro); exact ⟨⟨k + 1, by omega, by go_num, R⟩, rfl⟩)
              case measure => simp [intOf]; omega
            · obtain rfl : k = 8 := by omega
              rw [show (7 : Int) - ((8 : Nat) : Int) = -1 from rfl]
              go_wp2
              go_ret
              refine ⟨_, rfl, ?_⟩
              have := HP.out
              rw [List.take_of_length_le (by simp [Sha.be8]), ← HNP.out, ← HPL.out] at this
              rw [← HPL.out]
              exact this
end Go.Proofs.YthlmgookaljgnaaGreatDoor
namespace Go.Proofs.YthlmgookaljgnaaGreatDoor
set_option linter.unusedVariables false

/-- the groups of seven bits, the lowest first, each with whether it is the last -/
def gsF : Nat → Nat → List (Fin 128 × Bool)
  | 0, z => [(⟨z % 128, Nat.mod_lt _ (by decide)⟩, true)]
  | f + 1, z => if z < 128 then [(⟨z % 128, Nat.mod_lt _ (by decide)⟩, true)] else (⟨z % 128, Nat.mod_lt _ (by decide)⟩, false) :: gsF f (z / 128)
theorem gsF_fuel : ∀ (f g z : Nat), z < 128 ^ (f + 1) → z < 128 ^ (g + 1) → gsF f z = gsF g z := by
  intro f
  induction f with
  | zero =>
    intro g z h1 h2
    cases g with
    | zero => rfl
    | succ g => rw [gsF, gsF, if_pos (by simpa using h1)]
  | succ f ih =>
    intro g z h1 h2
    cases g with
    | zero => rw [gsF, gsF, if_pos (by simpa using h2)]
    | succ g =>
      rw [gsF, gsF]
      by_cases h : z < 128
      · rw [if_pos h, if_pos h]
      · rw [if_neg h, if_neg h, ih g (z / 128) (by rw [Nat.pow_succ] at h1; omega) (by rw [Nat.pow_succ] at h2; omega)]
def gs (z : Nat) : List (Fin 128 × Bool) := gsF 9 z
theorem gs_lt (z : Nat) (h : z < 128) : gs z = [(⟨z % 128, Nat.mod_lt _ (by decide)⟩, true)] := by rw [gs, gsF, if_pos h]
theorem gs_ge (z : Nat) (h : ¬ z < 128) (hz : z < 128 ^ 9) : gs z = (⟨z % 128, Nat.mod_lt _ (by decide)⟩, false) :: gs (z / 128) := by
  rw [gs, gsF, if_neg h, gs, gsF_fuel 8 9 (z / 128) (by omega) (by omega)]
def gb (x : Fin 128 × Bool) : Nat := if x.2 then x.1.1 else x.1.1 + 128
/-- the bytes of an encoded number -/
def encZ (z : Nat) : List Nat := (gs z).map gb
theorem encZ_lt (z : Nat) (h : z < 128) : encZ z = [z] := by
  rw [encZ, gs_lt z h]; simp [gb, Nat.mod_eq_of_lt h]
theorem encZ_ge (z : Nat) (h : ¬ z < 128) (hz : z < 128 ^ 9) : encZ z = (z % 128 + 128) :: encZ (z / 128) := by
  rw [encZ, gs_ge z h hz, List.map_cons]; rfl
theorem gb_lt (x : Fin 128 × Bool) : gb x < 256 := by have := x.1.2; unfold gb; split <;> omega
theorem gsF_len : ∀ f z, (gsF f z).length ≤ f + 1
  | 0, z => by simp [gsF]
  | f + 1, z => by
    rw [gsF]; split
    · simp
    · have := gsF_len f (z / 128); simp only [List.length_cons]; omega
theorem gs_len (z : Nat) : (gs z).length ≤ 10 := gsF_len 9 z
theorem encZ_len (z : Nat) : (encZ z).length ≤ 10 := by rw [encZ, List.length_map]; exact gs_len z
theorem encZ_bytes (z : Nat) : Sha.bytes (encZ z) := fun x hx => by
  obtain ⟨y, _, rfl⟩ := List.mem_map.1 hx
  exact gb_lt y
/-- an encoded length, and an encoded string -/
def intS (n : Nat) : ByteArray := ⟨((encZ (2 * n)).map UInt8.ofNat).toArray⟩
def putS (s : ByteArray) : ByteArray := intS s.size ++ s
theorem intS_size (n : Nat) : (intS n).size ≤ 10 := by
  show ((encZ (2 * n)).map UInt8.ofNat).toArray.size ≤ 10
  rw [List.size_toArray, List.length_map]; exact encZ_len _
theorem or128 (x : Nat) (h : x < 128) : x ||| 128 = x + 128 := by
  have := Nat.two_pow_add_eq_or_of_lt (i := 7) (b := x) (by simpa using h) 1
  rw [Nat.or_comm] at this
  simp at this; omega
end Go.Proofs.YthlmgookaljgnaaGreatDoor
namespace Go.Proofs.YthlmgookaljgnaaGreatDoor
open Go.RowKit Go.Shelf
set_option linter.unusedVariables false

attribute [local go_sem] Oper.semAt_some

/-- the loop's two blocks, from the block b on -/
def LoopRec (b : Nat) (r : Loop) (W : World) : Prop := W.heap[b + 1]? = some (.loop r) ∧ W.heap[b]? = some (.deferred (some []))
theorem LoopRec.kept {b : Nat} {r : Loop} {W W' : World} (h : LoopRec b r W) (hk : ∀ k, b ≤ k → k < W.heap.size → W'.heap[k]? = W.heap[k]?) : LoopRec b r W' :=
  ⟨by rw [hk _ (by omega) (ltOf h.1)]; exact h.1, by rw [hk _ (Nat.le_refl _) (ltOf h.2)]; exact h.2⟩

theorem range_seq {F : Fence} {n : Nat} {P : Program} {α : Type} {g : Operand} {ps : Array Tmp} {assign body : Code} {Q : Exit → Act → World → Prop} {tm : Array Value} {w : World}
    (hro : F.round = none) (h1 : 1 ≤ n) {gf : Nat} {lb : Array Value} (hg : Act.eval { tmps := tm, defers := [] } g = .func (.func gf) #[] lb) (hFg : F.fn gf) (eg : ∀ args w, (callFunc gf args).run P w = .ok (.enter gf args) w)
    {encs : α → Array Value} (hps : ∀ x, (encs x).size = ps.size) (I : List α → Nat → World → Prop) (S C : List α → Prop)
    (hIp : ∀ pre z W l o o', w.heap.size ≤ l → W.heap[l]? = some o → o.isCells = false → I pre z W → I pre z (W.putObj l o')) (hIa : ∀ pre z W o, I pre z W → I pre z (W.alloc o))
    (z0 : Nat) (h0 : I [] z0 w) (f : α → Array Value → Array Value)
    (hseq : ∀ (l : Nat) (r : Loop) (W1 : World), I [] z0 W1 → LoopRec w.heap.size r W1 → l = w.heap.size + 1 →
      (∀ pre z x W, C pre → I pre z W → LoopRec w.heap.size r W → YieldAt F (n - 1 - 1) P l (encs x) W fun e W' => e = .returned (.bool true) ∧ I (pre ++ [x]) z W' ∧ LoopRec w.heap.size r W') →
      CallsIn F (n - 1) P gf (#[.func (.yield l) #[] #[]] ++ lb) W1 fun e W' => (∃ v, e = .returned v) ∧ ∃ xs z, S xs ∧ I xs z W' ∧ LoopRec w.heap.size r W')
    (hassign : ∀ (l : Nat) (x : α) (W : World) (K : Act → World → Prop), K { tmps := f x tm, defers := [] } W →
      assign.wpIn (F.inRound l) (n - 1 - 1) P (Exit.then K (fun _ _ _ => False)) { tmps := (ps.zip (encs x)).foldl (fun t (p, v) => t.setIfInBounds p v) tm, defers := [] } W)
    (hbody : ∀ (l : Nat) (pre : List α) (z : Nat) (x : α) (W : World), C pre → I pre z W → w.heap.size < W.heap.size → body.wpIn (F.inRound l) (n - 1 - 1) P (fun e _ W' => e = .normal ∧ KeepsFrom w.heap.size W W' ∧ I (pre ++ [x]) z W') { tmps := f x tm, defers := [] } W)
    (hdone : ∀ (D : Nat) (xs : List α) (z : Nat) (W : World), w.heap.size ≤ D → S xs → I xs z W → W.heap[D]? = some (.deferred (some [])) → Q .normal { tmps := tm, defers := { target := .collected D, args := #[] } :: [] } W) :
    (Code.rangeFunc g ps assign body).wpIn F n P Q { tmps := tm, defers := [] } w := by
  refine wpIn_rangeFunc fun fn hfn => ?_
  rw [hro]
  let mk : LoopState → Loop := fun st => { state := st, pending := none, fn, tmps := tm, params := ps, assign, body, defers := w.heap.size }
  obtain ⟨W1, hW1⟩ : ∃ W1, (w.alloc (.deferred (some []))).alloc (.loop (mk .ready)) = W1 := ⟨_, rfl⟩
  have hL : LoopRec w.heap.size (mk .ready) W1 := by
    rw [← hW1]
    exact ⟨allocAt _ (by simp), by rw [allocOld (by simp)]; exact allocAt _ rfl⟩
  have hI1 : I [] z0 W1 := by rw [← hW1]; exact hIa _ _ _ _ (hIa _ _ _ _ h0)
  refine ⟨w.heap.size + 1, [{ target := .collected w.heap.size, args := #[] }], W1, { target := .fn (.func gf) lb, args := #[.func (.yield (w.heap.size + 1)) #[] #[]] }, W1, gf,
    #[.func (.yield (w.heap.size + 1)) #[] #[]] ++ lb, W1, by rw [← hW1]; exact run_enterLoop_outer _ _ _ _ _, ?_, ?_, ?_, fun _ => h1, ?_⟩
  · simp only [resolve, hg]; simp [go_sem]
  · intro f' hf'; simp [Target.leads] at hf'; subst hf'; exact hFg
  · simp [invoke, go_sem, eg]
  refine (hseq (w.heap.size + 1) (mk .ready) W1 hI1 hL rfl ?_).mono ?_
  · intro pre z x W hC hi hr
    have hlt := ltOf hr.1
    refine ⟨fn, _, assign, body, run_yield (P := P) (args := encs x) hr.1 (hps x), roundIn_of_wpIn hfn (hassign _ x W _ ⟨_, run_beginRound hr.1 rfl, ?_⟩)⟩
    have hl2 : (W.putObj (w.heap.size + 1) (.loop { mk .ready with state := .busy })).heap[w.heap.size + 1]? = some (.loop { mk .ready with state := .busy }) := World.putObj_heap_same hlt
    refine wpIn_mono (hbody _ pre z x _ hC (hIp _ _ _ _ _ _ (by omega) hr.1 rfl hi) (by simp; omega)) ?_
    rintro e a3 W3 ⟨rfl, hk3, hi3⟩
    have hl3 := hk3.same _ _ (by omega) hl2 rfl
    refine ⟨_, _, run_endRound (P := P) none hl3, rfl, hIp _ _ _ _ _ _ (by omega) hl3 rfl hi3, World.putObj_heap_same (ltOf hl3), ?_⟩
    rw [World.putObj_heap_other (by omega)]
    exact hk3.same _ _ (Nat.le_refl _) ((World.putObj_heap_other (by omega)).trans hr.2) rfl
  · rintro e W2 ⟨⟨v, rfl⟩, xs, z, hS, hi, hr⟩
    exact ⟨none, _, run_endLoop (P := P) hr.1 (by simp [mk]), hdone _ xs z _ (Nat.le_refl _) hS (hIp _ _ _ _ _ _ (by omega) hr.1 rfl hi) ((World.putObj_heap_other (by omega)).trans hr.2)⟩
end Go.Proofs.YthlmgookaljgnaaGreatDoor
namespace Go.Proofs.YthlmgookaljgnaaGreatDoor
open Go.RowKit
set_option linter.unusedVariables false

/-- A row of words of the call's own. -/
structure OWd (w : World) (l : List Nat) (n : Nat) (v : Value) (wr : World) : Prop where
  row : wr.ownsRow w.heap.size 156 1 v n (wv l)
  below : Below w.heap.size w wr
theorem OWd.push {w wr w' : World} {l l' : List Nat} {n n' : Nat} {v v' : Value} (h : OWd w l n v wr) (o : Obj) (xs : List Nat) (hr : w'.ownsRow w.heap.size 156 1 v' n' (wv l ++ wv xs)) (hl : l' = l ++ xs) (hg : (wr.alloc o).grownBy w' v.ownBlock) : OWd w l' n' v' w' := by
  subst hl
  exact ⟨by rw [show wv (l ++ xs) = wv l ++ wv xs by simp [wv]]; exact hr, (h.below.alloc h.below.size o).grown hg (by have := h.below.size; simp; omega) (fun k e => (h.row.lt k e).1)⟩
theorem OWd.form {w wr : World} {l : List Nat} {n : Nat} {v : Value} (h : OWd w l n v wr) (hn : 0 < n) : ∃ g c, v = .slice (some ⟨g, 0, none⟩) n c ∧ n ≤ c ∧ g < wr.heap.size ∧ ∀ (j : Nat) (x : Nat), l[j]? = some x → wr.cell? ⟨g, j, none⟩ = some (.int .u32 (x : Int)) := by
  rcases h.row.2 with ⟨_, e⟩ | ⟨g, c, cur, e, hb, hg, hc, hm, _⟩
  · omega
  · subst e
    refine ⟨g, c, rfl, hc, ltOf hg, fun j x hj => ?_⟩
    have := h.row.cells (g := g) rfl j (.int .u32 (x : Int)) (by simp [wv, hj])
    have ha : (⟨g, 0, none⟩ : Addr).add j = ⟨g, j, none⟩ := by unfold Addr.add; split <;> simp_all
    rwa [ha] at this
theorem keepA {W : World} {b j : Nat} {v : Value} {o : Obj} (h : W.cell? ⟨b, j, none⟩ = some v) : (W.alloc o).drew.cell? ⟨b, j, none⟩ = some v := by
  rw [World.cell?_drew, World.cell?_alloc_past _ _ _ (World.block_lt_of_cell? W _ h)]; exact h

theorem keepA0 {W : World} {b j : Nat} {v : Value} {o : Obj} (h : W.cell? ⟨b, j, none⟩ = some v) : (W.alloc o).cell? ⟨b, j, none⟩ = some v := by
  rw [World.cell?_alloc_past _ _ _ (World.block_lt_of_cell? W _ h)]; exact h
theorem keepG {W W2 : World} {row : Option Nat} {b j : Nat} {v : Value} (hg : W.grownBy W2 row) (h : W.cell? ⟨b, j, none⟩ = some v) (hne : ∀ k, row = some k → k ≠ b) : W2.cell? ⟨b, j, none⟩ = some v := by
  rw [World.cell?_of_block (hg.block b (World.block_lt_of_cell? W _ h) (fun e => hne b e.symm rfl))]; exact h
theorem news_one' {w : World} {x y : Value} {B : Nat} {t : TypeId} {fr : Nat × Nat} (h : x = y) (hb : w.heap[B]? = some (.cells #[x] t fr)) : ∀ j u, [y][j]? = some u → w.cell? ((⟨B, 0, none⟩ : Addr).add j) = some u := by
  subst h; exact World.news_of_block hb

theorem own_base {w : World} {b b' s n : Nat} {e : TypeId} {v : Value} {xs : List Value} (h : w.ownsRow b e s v n xs) (hb : b' ≤ b) : w.ownsRow b' e s v n xs :=
  ⟨h.1, h.2.imp id (fun ⟨g, c, cu, e1, e2, r⟩ => ⟨g, c, cu, e1, Nat.le_trans hb e2, r⟩)⟩
/-- append to a row of the call's own: what it held stays where it is, too. -/
theorem run_append_keep {P : Program} (w : World) (base : Nat) (t ty e : TypeId) (i : TypeInfo) (z : Value) (bytes : Nat) (ht : P.underlying t = some (.slice e)) (hi : P.info? e = some i) (hz : i.zero = some z)
    (hsize : i.size = 1) (hby : i.bytes = bytes) (hzs : z.cells.size = 1) (g n cap : Nat) (xs : List Value) (hown : w.ownsRow base e 1 (.slice (some ⟨g, 0, none⟩) n cap) n xs)
    (a : Addr) (m c : Nat) (news : List Value) (hl : news.length = m * 1) (hnews : ∀ j u, news[j]? = some u → w.cell? (a.add j) = some u) (h1 : ∀ u ∈ news, u.oneCell' = true)
    (h63 : n + m ≤ maxLen) (hbytes : (n + m) * bytes ≤ 140737488355328) (hbase : base ≤ w.heap.size) :
    ∃ v' w', (Builtin.append_ #[t, t] ty #[.slice (some ⟨g, 0, none⟩) n cap, .slice (some a) m c]).run P w = .ok v' w' ∧ w'.ownsRow base e 1 v' (n + m) (xs ++ news) ∧ w.grownBy w' (some g) ∧ ∀ j, j < n → w'.cell? ⟨g, j, none⟩ = w.cell? ⟨g, j, none⟩ := by
  obtain ⟨v', w', hr, ho, hg, _⟩ := run_append_own (P := P) w base t ty e i z 1 bytes ht hi hz hsize hby hzs (by decide) _ n xs hown a m c news hl hnews h1 h63 hbytes hbase
  refine ⟨v', w', hr, ho, hg, fun j hj => ?_⟩
  rcases hown.2 with ⟨e, _⟩ | ⟨g', c', cur, e, hb, hgk, hnc, hcm, hsz, htk⟩
  · cases e
  · injection e with e1 e2 e3
    injection e1 with e1
    injection e1 with e1
    subst e1 e3
    by_cases hroom : n + m ≤ cap
    · have hrun := run_append_room_cells (P := P) w t ty _ i ht hi g 0 n cap a m c news (by rw [hsize]; exact hl) hnews h1 hroom
        (fun j hj => by rw [cellOf hgk, Array.getElem?_eq_getElem (by rw [hsz, hsize]; omega)]; rfl) (fun j hj => frozenOf hgk _)
      rw [hr] at hrun
      injection hrun with e1 e2
      rw [e2]
      exact World.cell?_setCells_out g news _ w ⟨g, j, none⟩ (fun _ _ => .inl (by rw [hsize]; simp; omega))
    · obtain ⟨v2, w2, hr2, _, hg2⟩ := run_append_arg_grows (P := P) w t ty _ i z 1 bytes ht hi hz hsize hby hzs (by decide) ⟨g, 0, none⟩ n cap xs hown.1 (hown.cells (g := g) rfl) a m c news hl hnews (by omega) h63 hbytes
      rw [hr] at hr2
      injection hr2 with e1 e2
      rw [e2]
      exact World.cell?_of_block (hg2.block g (ltOf hgk) (by simp))
theorem step_append_keep {P : Program} {w : World} {ops : Array Oper} {o : Oper} {a : Act} {K : Act → World → Prop} {Q : Exit → Act → World → Prop} {E : Prop} (hgd : o.guard = none) (s x : Operand) (t : TypeId)
    (ho : o.op = .call { callee := .builtin .append, args := #[s, x], argTypes := #[t, t] }) (base : Nat) (e : TypeId) (i : TypeInfo) (z : Value) (bytes : Nat) (ht : P.underlying t = some (.slice e)) (hi : P.info? e = some i) (hz : i.zero = some z)
    (hsize : i.size = 1) (hby : i.bytes = bytes) (hzs : z.cells.size = 1) (g n cap : Nat) (xs : List Value) (hs : a.eval s = .slice (some ⟨g, 0, none⟩) n cap) (hown : w.ownsRow base e 1 (.slice (some ⟨g, 0, none⟩) n cap) n xs)
    (ad : Addr) (m c : Nat) (news : List Value) (hx : a.eval x = .slice (some ad) m c) (hl : news.length = m * 1) (hnews : ∀ j u, news[j]? = some u → w.cell? (ad.add j) = some u) (h1 : ∀ u ∈ news, u.oneCell' = true)
    (h63 : n + m ≤ maxLen) (hbytes : (n + m) * bytes ≤ 140737488355328) (hbase : base ≤ w.heap.size)
    (h : ∀ v' w', w'.ownsRow base e 1 v' (n + m) (xs ++ news) → w.grownBy w' (some g) → (∀ j, j < n → w'.cell? ⟨g, j, none⟩ = w.cell? ⟨g, j, none⟩) → K (a.put o.dst v') w') :
    if Region.wanted o (yielded ops a.tmps) = true then Oper.wp P o a w K Q else E := by
  have hw : Region.wanted o (yielded ops a.tmps) = true := by simp [Region.wanted, hgd]
  rw [if_pos hw]
  obtain ⟨v', w', hr, h2, h3, h4⟩ := run_append_keep (P := P) w base t o.type e i z bytes ht hi hz hsize hby hzs g n cap xs hown ad m c news hl hnews h1 h63 hbytes hbase
  unfold Oper.wp execOp
  simp only [ho, resolve, invoke, builtin, Sem.run_bind, Sem.run_pure, Result.andThen_ok, List.map_toArray, List.map_cons, List.map_nil, hs, hx, hr]
  exact h v' w' h2 h3 h4
theorem grown_of_drew {a b : World} {r : Option Nat} (h : a.drew.grownBy b r) : a.grownBy b r := ⟨h.os, h.tape, h.output, h.size, h.block⟩

theorem sig8 (x : Nat) (hx : x < 4294967296) (a b : Nat) : bits .xor .u32 (bits .xor .u32 ((Sha.rotr x a : Nat) : Int) ((Sha.rotr x b : Nat) : Int)) ((x : Int) / 8) = ((Sha.mix x [a, b] ^^^ x / 8 : Nat) : Int) := by
  rw [show (x : Int) / 8 = ((x / 8 : Nat) : Int) by simp, u32_xor_nat _ _ (Sha.rotr_lt _ _ hx) (Sha.rotr_lt _ _ hx), u32_xor_nat _ _ (Nat.xor_lt_two_pow (n := 32) (Sha.rotr_lt _ _ hx) (Sha.rotr_lt _ _ hx)) (by omega)]
  simp [Sha.mix]
theorem sig1024 (x : Nat) (hx : x < 4294967296) (a b : Nat) : bits .xor .u32 (bits .xor .u32 ((Sha.rotr x a : Nat) : Int) ((Sha.rotr x b : Nat) : Int)) ((x : Int) / 1024) = ((Sha.mix x [a, b] ^^^ x / 1024 : Nat) : Int) := by
  rw [show (x : Int) / 1024 = ((x / 1024 : Nat) : Int) by simp, u32_xor_nat _ _ (Sha.rotr_lt _ _ hx) (Sha.rotr_lt _ _ hx), u32_xor_nat _ _ (Nat.xor_lt_two_pow (n := 32) (Sha.rotr_lt _ _ hx) (Sha.rotr_lt _ _ hx)) (by omega)]
  simp [Sha.mix]
theorem mix3_int (x : Nat) (hx : x < 4294967296) (a b c : Nat) : bits .xor .u32 (bits .xor .u32 ((Sha.rotr x a : Nat) : Int) ((Sha.rotr x b : Nat) : Int)) ((Sha.rotr x c : Nat) : Int) = ((Sha.mix x [a, b, c] : Nat) : Int) := by
  rw [u32_xor_nat _ _ (Sha.rotr_lt _ _ hx) (Sha.rotr_lt _ _ hx), u32_xor_nat _ _ (Nat.xor_lt_two_pow (n := 32) (Sha.rotr_lt _ _ hx) (Sha.rotr_lt _ _ hx)) (Sha.rotr_lt _ _ hx)]
  simp [Sha.mix]
theorem nextv_int (x16 x15 x7 x2 : Nat) : IntKind.u32.wrap (IntKind.u32.wrap (IntKind.u32.wrap ((x16 : Int) + ((Sha.mix x15 [7, 18] ^^^ x15 / 8 : Nat) : Int)) + (x7 : Int)) + ((Sha.mix x2 [17, 19] ^^^ x2 / 1024 : Nat) : Int)) = ((Sha.nextv x16 x15 x7 x2 : Nat) : Int) := by
  unfold Sha.nextv
  simp only [IntKind.wrap_u32']
  omega

end Go.Proofs.YthlmgookaljgnaaGreatDoor
