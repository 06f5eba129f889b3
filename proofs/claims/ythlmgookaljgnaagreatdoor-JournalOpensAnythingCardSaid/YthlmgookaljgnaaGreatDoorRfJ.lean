/- The reference's journal: what a world holds of one; what a load reads is a grown tape. -/
import Derived.Test.YthlmgookaljgnaaGreatDoorRfT
import Derived.Test.YthlmgookaljgnaaGreatDoorRefE
import Derived.Test.YthlmgookaljgnaaGreatDoorHeadsJ
import Derived.Deep.LoopGhost
namespace Go.Proofs.YthlmgookaljgnaaGreatDoor
open Go.RowKit Go.Shelf
set_option linter.unusedVariables false
set_option linter.unusedSimpArgs false

/-- The reference's journal in block jb. -/
structure RJAt (w : World) (jb bx : Nat) (lv : Value) (br : Bool) (t : TV) : Prop where
  cells : w.heap[jb]? = some (.cells #[.pointer (some ⟨bx, 0, none⟩), lv, .int .i64 (t.size : Int), .bool br] 43 (0, 0))
  row : w.ownsRow (jb + 1) 9 1 lv t.recs.length (t.recs.map .string)
  ln : t.recs.length ≤ 1000000
  sz : t.size ≤ 1000000000
  hd : t.head = (growAll tv0 t.recs).head
theorem RJAt.head {w : World} {jb bx : Nat} {lv : Value} {br : Bool} {t : TV} (h : RJAt w jb bx lv br t) : t.head.size = 32 := by rw [h.hd]; exact growAll_head _ _ rfl
theorem RJAt.ne {w : World} {jb bx : Nat} {lv : Value} {br : Bool} {t : TV} (h : RJAt w jb bx lv br t) {q : Nat} (e : lv.ownBlock = some q) : jb < q ∧ q < w.heap.size := by
  have := h.row.lt q e
  omega
theorem own_updB {S : Nat → Prop} {w w' : World} {base size n : Nat} {t : TypeId} {v : Value} {xs : List Value} (h : w.ownsRow base t size v n xs) (hU : Upd S w w') (hn : ∀ q, v.ownBlock = some q → ¬ S q) : w'.ownsRow base t size v n xs := by
  refine ⟨h.1, ?_⟩
  rcases h.2 with e | ⟨g, cap, cur, e, hb, hg, r⟩
  · exact .inl e
  · exact .inr ⟨g, cap, cur, e, hb, hU.at hg (hn g (by rw [e]; rfl)), r⟩
theorem RJAt.upd {S : Nat → Prop} {w w' : World} {jb bx : Nat} {lv : Value} {br : Bool} {t : TV} (h : RJAt w jb bx lv br t) (hU : Upd S w w') (h1 : ¬ S jb) (h2 : ∀ q, lv.ownBlock = some q → ¬ S q) : RJAt w' jb bx lv br t :=
  ⟨hU.at h.cells h1, own_updB h.row hU h2, h.ln, h.sz, h.hd⟩
theorem RJAt.below {w w' : World} {jb bx : Nat} {lv : Value} {br : Bool} {t : TV} (h : RJAt w jb bx lv br t) (hB : Below w.heap.size w w') : RJAt w' jb bx lv br t := h.upd (Upd.of_below (S := fun _ => False) hB) (fun f => f) (fun _ _ f => f)
theorem RJAt.pushed {w W3 : World} {jb bx : Nat} {lv : Value} {br : Bool} {t : TV} (h : RJAt w jb bx lv br t) (r : ByteArray) {o : Obj} {g cap : Nat} (hl : t.recs.length ≤ 900000)
    (hown : W3.ownsRow (jb + 1) 9 1 (.slice (some ⟨g, 0, none⟩) (t.recs.length + 1) cap) (t.recs.length + 1) (t.recs.map .string ++ [.string r])) (hg : (w.alloc o).grownBy W3 lv.ownBlock) :
    W3.heap[jb]? = some (.cells #[.pointer (some ⟨bx, 0, none⟩), lv, .int .i64 (t.size : Int), .bool br] 43 (0, 0)) ∧
    ∀ z : Nat, z ≤ 1000000000 → RJAt ((W3.setCell ⟨jb, 1, none⟩ (.slice (some ⟨g, 0, none⟩) (t.recs.length + 1) cap)).setCell ⟨jb, 2, none⟩ (.int .i64 (z : Int))) jb bx (.slice (some ⟨g, 0, none⟩) (t.recs.length + 1) cap) br ⟨t.recs ++ [r], chainB t.head r, z⟩ := by
  have h3 : W3.heap[jb]? = some (.cells #[.pointer (some ⟨bx, 0, none⟩), lv, .int .i64 (t.size : Int), .bool br] 43 (0, 0)) := by
    rw [hg.block jb (by have := ltOf h.cells; simp; omega) (fun e => by have := (h.ne e.symm).1; omega), allocOld (ltOf h.cells)]; exact h.cells
  refine ⟨h3, fun z hz => ⟨?_, ?_, by simp; omega, hz, ?_⟩⟩
  · have := setOf_ (setOf_ h3 1 (.slice (some ⟨g, 0, none⟩) (t.recs.length + 1) cap)) 2 (.int .i64 (z : Int))
    exact this
  · have hne : (Value.slice (some ⟨g, 0, none⟩) (t.recs.length + 1) cap).ownBlock ≠ some jb := by
      intro e
      have := hown.lt jb e
      omega
    have h1 := hown.kept (Lib.grownBy_setCell W3 jb 1 (.slice (some ⟨g, 0, none⟩) (t.recs.length + 1) cap)) (.inr hne)
    have h2 := h1.kept (Lib.grownBy_setCell _ jb 2 (.int .i64 (z : Int))) (.inr hne)
    simpa using h2
  · show chainB t.head r = (growAll tv0 (t.recs ++ [r])).head
    rw [growAll_snoc, h.hd]; rfl

theorem loadP_grow (s : ByteArray) : ∀ (f : Nat) (t t' : TV), loadP s f t = some t' → ∃ l, t' = growAll t l
  | 0, t, t', h => by
    rw [loadP] at h; cases h; exact ⟨[], rfl⟩
  | f + 1, t, t', h => by
    rw [loadP] at h
    split at h
    · split at h
      · cases h; exact ⟨[], rfl⟩
      · split at h
        · split at h
          · split at h
            · obtain ⟨l, e⟩ := loadP_grow s f _ t' h
              exact ⟨_ :: l, e⟩
            · cases h
          · cases h
        · cases h
    · cases h; exact ⟨[], rfl⟩

/-- what Open answers -/
def ROut (w : World) (bx n : Nat) (G : Nat → Prop) (o : Int × Option TV × DV) (e : Ending) (w' : World) : Prop :=
  match o with
  | (c, none, d') => e = .returned (.tuple #[.pointer none, .int .i64 c]) ∧ ∃ G', RefF w' bx n d' G' ∧ Moves G G' w w'
  | (c, some t, d') => ∃ jb lv G', e = .returned (.tuple #[.pointer (some ⟨jb, 0, none⟩), .int .i64 c]) ∧ RefF w' bx n d' G' ∧ Moves G G' w w' ∧ RJAt w' jb bx lv false t ∧ w.heap.size ≤ jb ∧ ¬ G' jb ∧ ∀ q, lv.ownBlock = some q → ¬ G' q
/-- what the loop of Open keeps -/
structure RLoad (w : World) (jb bx n : Nat) (t : TV) (hv : Value) (wr : World) : Prop where
  own : ∃ lv, RJAt wr jb bx lv false t
  hv : hv = .string t.head
  below : Below w.heap.size w wr
  len : t.recs.length ≤ t.size
  le : t.size ≤ n
  lo : w.heap.size ≤ jb
end Go.Proofs.YthlmgookaljgnaaGreatDoor
