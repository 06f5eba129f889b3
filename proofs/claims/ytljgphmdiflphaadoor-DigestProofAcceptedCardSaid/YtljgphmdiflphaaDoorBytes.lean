/- Rows of bytes that a call owns and appends to, a row made from a string among them. -/
import Derived.Test.YtljgphmdiflphaaDoorShaD
import Derived.ArgAppend
import Derived.Lib.ConvBytes
namespace Go.Proofs.YtljgphmdiflphaaDoor
open Go.RowKit
set_option linter.unusedVariables false

/-- A slice of bytes that the call owns from block base on; its row may bear the mark of a conversion behind its last cell. -/
def BRow (w : World) (base : Nat) (v : Value) (l : List Nat) : Prop :=
  ∃ g cap cur fr, v = .slice (some ⟨g, 0, none⟩) l.length cap ∧ base ≤ g ∧ w.heap[g]? = some (.cells cur 5 fr) ∧ l.length ≤ cap ∧ cap ≤ cur.size ∧ cur.toList.take l.length = nv l ∧ (∀ j, j < cap → w.frozen? ⟨g, j, none⟩ = false)

theorem BRow.of_own {w : World} {base n : Nat} {v : Value} {l : List Nat} (h : w.ownsRow base 5 1 v n (nv l)) (hn : 0 < n) : BRow w base v l := by
  have hl : l.length = n := by have := h.1; simpa [nv] using this
  rcases h.2 with ⟨rfl, h0⟩ | ⟨g, cap, cur, rfl, hb, hg, hn, hc, hs, htk⟩
  · omega
  · refine ⟨g, cap, cur, (0, 0), by rw [hl], hb, hg, by omega, by omega, by rw [hl, ← htk, Nat.mul_one], fun j _ => frozenOf hg j⟩

theorem BRow.upd {w w' : World} {base : Nat} {v : Value} {l : List Nat} {S : Nat → Prop} (h : BRow w base v l) (hu : Upd S w w') (hS : ∀ g, v.ownBlock = some g → ¬ S g) : BRow w' base v l := by
  obtain ⟨g, cap, cur, fr, rfl, hb, hg, h1, h2, h3, h4⟩ := h
  have hn := hS g rfl
  refine ⟨g, cap, cur, fr, rfl, hb, hu.at hg hn, h1, h2, h3, fun j hj => ?_⟩
  rw [World.frozen?_of_block (w := w) (hu.block g (ltOf hg) hn)]
  exact h4 j hj
theorem BRow.cell {w : World} {base : Nat} {v : Value} {l : List Nat} (h : BRow w base v l) : ∃ g cap, v = .slice (some ⟨g, 0, none⟩) l.length cap ∧ base ≤ g ∧ g < w.heap.size ∧ l.length ≤ cap ∧ ∀ j, j < l.length → w.cell? ⟨g, j, none⟩ = some (.int .u8 (l.getD j 0 : Nat)) := by
  obtain ⟨g, cap, cur, fr, rfl, hb, hg, h1, h2, h3, h4⟩ := h
  refine ⟨g, cap, rfl, hb, ltOf hg, h1, fun j hj => ?_⟩
  rw [cellOf hg]
  have := congrArg (·[j]?) h3
  simp only [List.getElem?_take, if_pos hj, nv, List.getElem?_map] at this
  rw [Array.getElem?_toList] at this
  rw [this, List.getD_eq_getElem?_getD, List.getElem?_eq_getElem hj]; rfl

theorem grownBy_setCell' (w : World) (b o : Nat) (v : Value) : w.grownBy (w.setCell ⟨b, o, none⟩ v) (some b) := Lib.grownBy_setCell w b o v

/-- append(row, x) of one byte -/
theorem wpList_brow_push {P : Program} {w : World} {ops : Array Oper} {rest : List Oper} {o : Oper} {a : Act} {Q : Exit → Act → World → Prop} (hgd : o.guard = none) (s x : Operand) (t : TypeId)
    (hop : o.op = Op.call { callee := Callee.builtin Builtin.append, args := #[s, x], argTypes := #[t, t] }) (ht : P.underlying t = some (.slice 5))
    (hinf : (P.info? 5).map (fun i => (i.zero, i.size, i.bytes)) = some (some (.int .u8 0), 1, 1))
    (base : Nat) (v : Value) (l : List Nat) (hs : a.eval s = v) (hrow : BRow w base v l) (B c : Nat) (y : Nat) (hx : a.eval x = .slice (some ⟨B, 0, none⟩) 1 c) (hB : w.cell? ⟨B, 0, none⟩ = some (.int .u8 (y : Int)))
    (hl : l.length ≤ 1000000000) (hbase : base ≤ w.heap.size)
    (hK : ∀ v' w', Hid (BRow w' base v' (l ++ [y])) → Hid (w.grownBy w' v.ownBlock) → wpList P ops Q rest (a.put o.dst v') w') : wpList P ops Q (o :: rest) a w := by
  obtain ⟨i0, hi0, hz0, hz1, hz2⟩ := info_parts hinf
  obtain ⟨g, cap, cur, fr, rfl, hb, hg, h1, h2, h3, h4⟩ := hrow
  have hcell : ∀ j u, (nv l)[j]? = some u → w.cell? ⟨g, 0 + j, none⟩ = some u := fun j u hu => by
    have hj : j < l.length := by rw [← nv_length]; exact (List.getElem?_eq_some_iff.1 hu).1
    rw [Nat.zero_add, cellOf hg]
    have := congrArg (·[j]?) h3
    simp only [List.getElem?_take, if_pos hj] at this
    rw [Array.getElem?_toList] at this
    rw [this]; exact hu
  refine wpList_append_arg w hgd s x t hop 5 i0 (.int .u8 0) 1 1 ht hi0 hz0 hz1 hz2 rfl (by decide) g 0 l.length cap (nv l) hs (by rw [nv_length]; omega) hcell ⟨B, 0, none⟩ 1 c [.int .u8 (y : Int)] hx rfl
    (fun j u hu => by
      match j, hu with
      | 0, hu => injection hu with hu; subst hu; exact hB
      | j + 1, hu => cases hu)
    (by simp [Value.oneCell']) (fun hroom j hj => ?_) (by simp only [maxLen]; omega) (by omega) (fun hroom => ?_) (fun hgrow v' w' hown hgw => ?_)
  · have hj0 : j = 0 := by simpa using hj
    subst hj0
    exact ⟨by rw [cellOf hg, Array.getElem?_eq_getElem (by omega)]; rfl, h4 _ (by omega)⟩
  · have hset : w.setCells g (0 + l.length * 1) [.int .u8 (y : Int)] = w.setCell ⟨g, l.length, none⟩ (.int .u8 (y : Int)) := by
      rw [Nat.zero_add, Nat.mul_one]; rfl
    rw [hset]
    refine hK _ _ ⟨g, cap, _, fr, by simp, hb, setOf_ hg _ _, by simpa using hroom, by simpa using h2, ?_, fun j hj => by rw [World.frozen?_setCell]; exact h4 j hj⟩ (grownBy_setCell' w g l.length _)
    rw [Array.toList_setIfInBounds]
    apply List.ext_getElem?
    intro i
    have e3 := congrArg (·[i]?) h3
    simp only [List.getElem?_take] at e3
    rw [List.getElem?_take, List.length_append, List.length_singleton]
    by_cases hi : i < l.length
    · rw [if_pos hi] at e3
      rw [if_pos (by omega), List.getElem?_set_ne (by omega), e3]
      simp only [nv, List.map_append, List.getElem?_map]
      rw [List.getElem?_append_left (by simpa using hi), List.getElem?_map]
    · by_cases hi2 : i = l.length
      · subst hi2
        rw [if_pos (by omega), List.getElem?_set_self (by simp; omega)]
        simp [nv]
      · rw [if_neg (by omega), List.getElem?_eq_none (by simp [nv]; omega)]
  · refine hK v' w' (BRow.of_own (n := l.length + 1) ?_ (by omega)) ⟨hgw.os, hgw.tape, hgw.output, hgw.size, fun k hk _ => hgw.block k hk (by simp)⟩
    have : nv l ++ [.int .u8 (y : Int)] = nv (l ++ [y]) := by simp [nv]
    rw [← this]
    exact ⟨hown.1, hown.2.imp id (fun ⟨g', c', cu', e1, e2, r⟩ => ⟨g', c', cu', e1, Nat.le_trans hbase e2, r⟩)⟩

/-- []byte(s) -/
theorem brow_of_string (w : World) (s : ByteArray) : BRow (Lib.bytesWorld w 5 s) w.heap.size (.slice (some ⟨w.heap.size, 0, none⟩) s.size (grownCap w s.size 0 5)) (Sha.nats s.data.toList) ∧
    Below w.heap.size w (Lib.bytesWorld w 5 s) := by
  have hnl : (Sha.nats s.data.toList).length = s.size := by rw [Sha.nats, List.length_map]; rfl
  have hcap : s.size ≤ grownCap w s.size 0 5 := grownCap_ge w s.size 0 _
  have hh := Lib.bytesWorld_at_new w 5 s
  have hcs : (Lib.bytesCells w 5 s).size = grownCap w s.size 0 5 := by
    rw [Lib.bytesCells, Array.size_append, Array.size_map, Array.size_replicate]; show s.size + _ = _; omega
  refine ⟨⟨w.heap.size, _, _, _, by rw [hnl], Nat.le_refl _, hh, by omega, by omega, ?_, fun j hj => ?_⟩, ⟨rfl, rfl, rfl, by rw [Lib.bytesWorld_size]; omega, fun k hk => Lib.bytesWorld_at_old w _ s k hk⟩⟩
  · rw [Lib.bytesCells, Array.toList_append, hnl, List.take_left' (by rw [Array.toList_map, List.length_map]; rfl)]
    rw [Array.toList_map, nv, Sha.nats, List.map_map]; rfl
  · unfold World.frozen?
    rw [hh]
    simp
    omega

/-- []byte(s), as one step: the world is named anew. -/
theorem wpList_string_bytes {P : Program} {w : World} {ops : Array Oper} {rest : List Oper} {o : Oper} {a : Act} {Q : Exit → Act → World → Prop} (hgd : o.guard = none) (src dst : TypeId) (x : Operand) (hop : o.op = .convert src dst x)
    {u : TypeDesc} (hs : P.underlying src = some u) (hd : P.underlying dst = some (.slice 5)) (he : P.underlying 5 = some (.int .u8)) (s : ByteArray) (hx : a.eval x = .string s)
    (hK : ∀ cap w', Hid (BRow w' w.heap.size (.slice (some ⟨w.heap.size, 0, none⟩) s.size cap) (Sha.nats s.data.toList)) → Hid (Below w.heap.size w w') → Hid (w'.heap.size = w.heap.size + 1) → wpList P ops Q rest (a.put o.dst (.slice (some ⟨w.heap.size, 0, none⟩) s.size cap)) w') :
    wpList P ops Q (o :: rest) a w := by
  refine wpList_plain hgd fun K hK' => ?_
  have hr := Lib.run_convert_string_bytes (P := P) w src dst 5 s hs hd he
  obtain ⟨h1, h2⟩ := brow_of_string w s
  unfold Oper.wp
  simp [execOp, hop, hx, hr, Result.andThen]
  exact hK' _ _ (hK _ _ h1 h2 (Lib.bytesWorld_size _ _ _))
end Go.Proofs.YtljgphmdiflphaaDoor
