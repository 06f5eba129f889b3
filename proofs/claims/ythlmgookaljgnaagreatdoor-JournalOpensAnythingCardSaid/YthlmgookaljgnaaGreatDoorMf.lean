/- The disk with its blocks as a set: contracts for the laws.
  Appending strings to an empty slice, and to what came of it, in a region that draws its order.
  slices.Clone at strings.
  The journal: a value, its functions writing, Room, Records.
  The journal: Open, where it writes nothing.
  strings.Builder: copyCheck, WriteString.
  The journal: what Append does, plain.
  The journal: the four calls of Append.
-/
import Derived.Test.YthlmgookaljgnaaGreatDoorMe
import Derived.Test.YthlmgookaljgnaaGreatDoorMd
import Derived.Test.YthlmgookaljgnaaGreatDoorShelf
import Derived.ArgAppend
import Derived.Lib.OthersKept
namespace Go.Proofs.YthlmgookaljgnaaGreatDoor
open Go.RowKit
set_option linter.unusedVariables false

theorem DiskAt.foot_ltG {w : World} {bd bu bv : Nat} {pv : Value} {n : Nat} {d : DV} (h : DiskAt w bd bu bv pv n d) {k : Nat} (hf : Foot bd bu bv pv k) : k < w.heap.size := by
  rcases hf with rfl | rfl | rfl | e
  · exact ltOf h.hd
  · exact ltOf h.hu
  · exact ltOf h.hv
  · exact (h.hp.lt _ e).2

/-- A disk, and the set of its blocks. -/
def DiskF (w : World) (bd n : Nat) (d : DV) (F : Nat → Prop) : Prop := ∃ bu bv pv, DiskAt w bd bu bv pv n d ∧ ∀ k, F k ↔ Foot bd bu bv pv k
/-- What a call on blocks F leaves, which are F' then. -/
def Moves (F F' : Nat → Prop) (w w' : World) : Prop := Upd F w w' ∧ ∀ k, F' k → F k ∨ w.heap.size ≤ k

theorem DiskF.lt {w : World} {bd n : Nat} {d : DV} {F : Nat → Prop} (h : DiskF w bd n d F) {k : Nat} (hk : F k) : k < w.heap.size := by
  obtain ⟨bu, bv, pv, h1, h2⟩ := h
  exact h1.foot_ltG ((h2 k).1 hk)
theorem DiskF.upd {w w' : World} {bd n : Nat} {d : DV} {F S : Nat → Prop} (h : DiskF w bd n d F) (hU : Upd S w w') (hS : ∀ k, F k → ¬ S k) : DiskF w' bd n d F := by
  obtain ⟨bu, bv, pv, h1, h2⟩ := h
  exact ⟨bu, bv, pv, h1.upd hU (fun k hf => hS k ((h2 k).2 hf)), h2⟩
theorem DiskF.size_pos {w : World} {bd n : Nat} {d : DV} {F : Nat → Prop} (h : DiskF w bd n d F) : 1 ≤ n ∧ n ≤ 4194304 ∧ d.vi.length = n ∧ d.du.length = n := by
  obtain ⟨bu, bv, pv, h1, h2⟩ := h
  exact ⟨h1.lo, h1.hi, h1.lv, h1.lu⟩
theorem DiskF.fit {w : World} {bd n : Nat} {d : DV} {F : Nat → Prop} (h : DiskF w bd n d F) : (∀ p ∈ d.pe, p.1 + p.2.size ≤ n) ∧ 0 ≤ d.left := by
  obtain ⟨bu, bv, pv, h1, h2⟩ := h
  exact ⟨h1.fit, h1.l0⟩

theorem Moves.upd {F F' : Nat → Prop} {w w' : World} (h : Moves F F' w w') : Upd F w w' := h.1
theorem Moves.trans {F F' F'' : Nat → Prop} {a b c : World} (h : Moves F F' a b) (k : Moves F' F'' b c) : Moves F F'' a c :=
  ⟨h.1.trans k.1 (fun i hi e => (h.2 i e).resolve_right (by omega)), fun i e => by
    rcases k.2 i e with e | e
    · exact h.2 i e
    · exact .inr (Nat.le_trans h.1.size e)⟩
theorem Moves.refl (F : Nat → Prop) (w : World) : Moves F F w w := ⟨Upd.refl _ _, fun _ h => .inl h⟩
/-- What stands apart stays apart. -/
theorem Moves.apart {F F' G : Nat → Prop} {w w' : World} (h : Moves F F' w w') (hG : ∀ k, G k → ¬ F k) (hl : ∀ k, G k → k < w.heap.size) : ∀ k, G k → ¬ F' k := fun k hk hf => by
  rcases h.2 k hf with e | e
  · exact hG k hk e
  · have := hl k hk; omega
theorem Moves.base {F F' : Nat → Prop} {w w' : World} {N : Nat} (h : Moves F F' w w') (hF : ∀ k, F k → N ≤ k) (hN : N ≤ w.heap.size) : (∀ k, F' k → N ≤ k) ∧ Below N w w' := by
  refine ⟨fun k hk => ?_, h.1.os, h.1.tape, h.1.output, h.1.size, fun k hk => h.1.block k (by omega) (fun e => by have := hF k e; omega)⟩
  rcases h.2 k hk with e | e
  · exact hF k e
  · omega

def writeD (d : DV) (p : Nat) (s : ByteArray) : DV := ⟨usedOff false d.left, usedLeft d.left, d.du, splice d.vi p s.data.toList, d.pe ++ [(p, s)]⟩
def syncD (d : DV) : DV := ⟨d.off, d.left, d.vi, d.vi, []⟩
def newD (n : Nat) : DV := ⟨false, 0, List.replicate n 0, List.replicate n 0, []⟩
def cutD (d : DV) (x : Int) : DV := ⟨x == 0, x, d.du, d.vi, d.pe⟩

theorem newF (w : World) (n : Nat) (h1 : 1 ≤ n) (h2 : (n : Int) ≤ 4194304) :
    Calls Tryz.prog 23 #[.int .i64 (n : Int)] w fun e w' => ∃ bd,
      e = .returned (.tuple #[.pointer (some ⟨bd, 0, none⟩), .int .i64 0]) ∧ (∃ F, DiskF w' bd n (newD n) F ∧ ∀ k, F k → w.heap.size ≤ k) ∧ Below w.heap.size w w' := by
  refine (New_ok w n h1 h2).mono ?_
  rintro e w' ⟨bd, bu, bv, rfl, h, hB, a, b, c⟩
  refine ⟨bd, rfl, ⟨Foot bd bu bv (.slice none 0 0), ⟨bu, bv, _, h, fun _ => Iff.rfl⟩, ?_⟩, hB⟩
  rintro k (rfl | rfl | rfl | e)
  · exact a
  · exact b
  · exact c
  · cases e

section
variable {w : World} {bd n : Nat} {d : DV} {F : Nat → Prop}

theorem writeF (h : DiskF w bd n d F) (ho : d.off = false) (p : Nat) (s : ByteArray) (hs : p + s.size ≤ n) (hl : d.pe.length ≤ 1000000) :
    Calls Tryz.prog 10 #[.pointer (some ⟨bd, 0, none⟩), .int .i64 (p : Int), .string s] w fun e w' =>
      e = .returned (.int .i64 0) ∧ ∃ F', DiskF w' bd n (writeD d p s) F' ∧ Moves F F' w w' := by
  obtain ⟨bu, bv, pv, h1, h2⟩ := h
  refine (Write_ok h1 ho p s hs hl).mono ?_
  rintro e w' ⟨rfl, pv', a, b, c⟩
  refine ⟨rfl, Foot bd bu bv pv', ⟨bu, bv, pv', a, fun _ => Iff.rfl⟩, b.mono (fun i _ e => (h2 i).2 e), ?_⟩
  rintro k (rfl | rfl | rfl | e)
  · exact .inl ((h2 _).2 (.inl rfl))
  · exact .inl ((h2 _).2 (.inr (.inl rfl)))
  · exact .inl ((h2 _).2 (.inr (.inr (.inl rfl))))
  · rcases c with c | ⟨g, c1, c2⟩
    · exact .inl ((h2 _).2 (.inr (.inr (.inr (c ▸ e)))))
    · rw [c1] at e; injection e with e; exact .inr (by omega)

theorem writeF_off (h : DiskF w bd n d F) (ho : d.off = true) (x : Int) (s : ByteArray) :
    Calls Tryz.prog 10 #[.pointer (some ⟨bd, 0, none⟩), .int .i64 x, .string s] w fun e w' => e = .returned (.int .i64 251) ∧ w = w' := by
  obtain ⟨bu, bv, pv, h1, h2⟩ := h
  exact Write_off h1 ho x s
theorem writeF_out (h : DiskF w bd n d F) (ho : d.off = false) (x : Int) (s : ByteArray) (hs : s.size ≤ 9223372036854775807) (hx : -9223372036854775808 ≤ x) (h0 : ¬ (0 ≤ x ∧ x + s.size ≤ n)) :
    Calls Tryz.prog 10 #[.pointer (some ⟨bd, 0, none⟩), .int .i64 x, .string s] w fun e w' => e = .returned (.int .i64 250) ∧ w = w' := by
  obtain ⟨bu, bv, pv, h1, h2⟩ := h
  exact Write_out h1 ho x s hs hx h0

theorem moves_same {F : Nat → Prop} {bu bv : Nat} {pv pv' : Value} {w w' : World} (h2 : ∀ k, F k ↔ Foot bd bu bv pv k) (b : Upd (Foot bd bu bv pv) w w') (c : pv'.ownBlock = pv.ownBlock) : Moves F (Foot bd bu bv pv') w w' := by
  refine ⟨b.mono (fun i _ e => (h2 i).2 e), ?_⟩
  rintro k (rfl | rfl | rfl | e)
  · exact .inl ((h2 _).2 (.inl rfl))
  · exact .inl ((h2 _).2 (.inr (.inl rfl)))
  · exact .inl ((h2 _).2 (.inr (.inr (.inl rfl))))
  · exact .inl ((h2 _).2 (.inr (.inr (.inr (c ▸ e)))))

theorem syncF (h : DiskF w bd n d F) (ho : d.off = false) :
    Calls Tryz.prog 34 #[.pointer (some ⟨bd, 0, none⟩)] w fun e w' => e = .returned (.int .i64 0) ∧ ∃ F', DiskF w' bd n (syncD d) F' ∧ Moves F F' w w' := by
  obtain ⟨bu, bv, pv, h1, h2⟩ := h
  refine (Sync_ok h1 ho).mono ?_
  rintro e w' ⟨rfl, pv', a, b, c⟩
  exact ⟨rfl, _, ⟨bu, bv, pv', a, fun _ => Iff.rfl⟩, moves_same h2 b c⟩
theorem syncF_off (h : DiskF w bd n d F) (ho : d.off = true) :
    Calls Tryz.prog 34 #[.pointer (some ⟨bd, 0, none⟩)] w fun e w' => e = .returned (.int .i64 251) ∧ w = w' := by
  obtain ⟨bu, bv, pv, h1, h2⟩ := h
  exact Sync_off h1 ho

theorem readF (h : DiskF w bd n d F) (ho : d.off = false) (x m : Nat) (hx : x + m ≤ n) :
    Calls Tryz.prog 44 #[.pointer (some ⟨bd, 0, none⟩), .int .i64 (x : Int), .int .i64 (m : Int)] w fun e w' =>
      e = .returned (.tuple #[.string ⟨((d.vi.drop x).take m).toArray⟩, .int .i64 0]) ∧ w = w' := by
  obtain ⟨bu, bv, pv, h1, h2⟩ := h
  exact Read_ok h1 ho x m hx
/-- reading all -/
theorem readF_all (h : DiskF w bd n d F) (ho : d.off = false) :
    Calls Tryz.prog 44 #[.pointer (some ⟨bd, 0, none⟩), .int .i64 0, .int .i64 (n : Int)] w fun e w' =>
      e = .returned (.tuple #[.string ⟨d.vi.toArray⟩, .int .i64 0]) ∧ w = w' := by
  have h' := readF h ho 0 n (by omega)
  rw [List.drop_zero, List.take_of_length_le (by rw [h.size_pos.2.2.1]; exact Nat.le_refl _)] at h'
  exact h'
theorem readF_off (h : DiskF w bd n d F) (ho : d.off = true) (x m : Int) :
    Calls Tryz.prog 44 #[.pointer (some ⟨bd, 0, none⟩), .int .i64 x, .int .i64 m] w fun e w' => e = .returned (.tuple #[.string ⟨#[]⟩, .int .i64 251]) ∧ w = w' := by
  obtain ⟨bu, bv, pv, h1, h2⟩ := h
  exact Read_off h1 ho x m
theorem readF_out (h : DiskF w bd n d F) (ho : d.off = false) (x m : Int) (hx : -9223372036854775808 ≤ x) (hm : -9223372036854775808 ≤ m) (h0 : ¬ (0 ≤ x ∧ 0 ≤ m ∧ x ≤ n ∧ m ≤ n - x)) :
    Calls Tryz.prog 44 #[.pointer (some ⟨bd, 0, none⟩), .int .i64 x, .int .i64 m] w fun e w' => e = .returned (.tuple #[.string ⟨#[]⟩, .int .i64 250]) ∧ w = w' := by
  obtain ⟨bu, bv, pv, h1, h2⟩ := h
  exact Read_out h1 ho x m hx hm h0

theorem cutF (h : DiskF w bd n d F) (ho : d.off = false) (x : Int) (h0 : 0 ≤ x) (h1 : x ≤ 9223372036854775807) :
    Calls Tryz.prog 46 #[.pointer (some ⟨bd, 0, none⟩), .int .i64 x] w fun e w' => e = .returned (.int .i64 0) ∧ ∃ F', DiskF w' bd n (cutD d x) F' ∧ Moves F F' w w' := by
  obtain ⟨bu, bv, pv, g1, g2⟩ := h
  refine (Cut_ok g1 ho x h0 h1).mono ?_
  rintro e w' ⟨rfl, a, b⟩
  exact ⟨rfl, F, ⟨bu, bv, pv, a, g2⟩, b.mono (fun i _ e => (g2 i).2 (.inl e)), fun k h => .inl h⟩
theorem cutF_off (h : DiskF w bd n d F) (ho : d.off = true) (x : Int) :
    Calls Tryz.prog 46 #[.pointer (some ⟨bd, 0, none⟩), .int .i64 x] w fun e w' => e = .returned (.int .i64 251) ∧ w = w' := by
  obtain ⟨bu, bv, pv, h1, h2⟩ := h
  exact Cut_off h1 ho x
theorem cutF_neg (h : DiskF w bd n d F) (ho : d.off = false) (x : Int) (h0 : x < 0) :
    Calls Tryz.prog 46 #[.pointer (some ⟨bd, 0, none⟩), .int .i64 x] w fun e w' => e = .returned (.int .i64 2) ∧ w = w' := by
  obtain ⟨bu, bv, pv, h1, h2⟩ := h
  exact Cut_neg h1 ho x h0

theorem pendingF (h : DiskF w bd n d F) :
    Calls Tryz.prog 22 #[.pointer (some ⟨bd, 0, none⟩)] w fun e w' => e = .returned (.int .i64 d.pe.length) ∧ w = w' := by
  obtain ⟨bu, bv, pv, h1, h2⟩ := h
  exact Pending_any h1
theorem sizeF (h : DiskF w bd n d F) :
    Calls Tryz.prog 43 #[.pointer (some ⟨bd, 0, none⟩)] w fun e w' => e = .returned (.int .i64 n) ∧ w = w' := by
  obtain ⟨bu, bv, pv, h1, h2⟩ := h
  exact Size_any h1
end

/-! ### With all blocks from N on -/
def DiskB (N : Nat) (w : World) (bd n : Nat) (d : DV) : Prop := ∃ F, DiskF w bd n d F ∧ (∀ k, F k → N ≤ k) ∧ N ≤ w.heap.size
theorem DiskB.of {N : Nat} {w w' : World} {bd n : Nat} {d' : DV} {F : Nat → Prop} (hF : ∀ k, F k → N ≤ k) (hN : N ≤ w.heap.size) (h : ∃ F', DiskF w' bd n d' F' ∧ Moves F F' w w') : DiskB N w' bd n d' ∧ Below N w w' := by
  obtain ⟨F', a, b⟩ := h
  obtain ⟨c, e⟩ := b.base hF hN
  exact ⟨⟨F', a, c, Nat.le_trans hN b.1.size⟩, e⟩
theorem DiskB.below {N : Nat} {w w' : World} {bd n : Nat} {d : DV} (h : DiskB N w bd n d) (hB : Below w.heap.size w w') : DiskB N w' bd n d := by
  obtain ⟨F, a, b, c⟩ := h
  exact ⟨F, a.upd (Upd.of_below (S := fun _ => False) hB) (fun _ _ f => f), b, Nat.le_trans c hB.size⟩

section
variable {N : Nat} {w : World} {bd n : Nat} {d : DV}
theorem newB (w : World) (n : Nat) (h1 : 1 ≤ n) (h2 : (n : Int) ≤ 4194304) :
    Calls Tryz.prog 23 #[.int .i64 (n : Int)] w fun e w' => ∃ bd,
      e = .returned (.tuple #[.pointer (some ⟨bd, 0, none⟩), .int .i64 0]) ∧ DiskB w.heap.size w' bd n (newD n) ∧ Below w.heap.size w w' := by
  refine (newF w n h1 h2).mono ?_
  rintro e w' ⟨bd, rfl, ⟨F, a, b⟩, c⟩
  exact ⟨bd, rfl, ⟨F, a, b, c.size⟩, c⟩
theorem writeB (h : DiskB N w bd n d) (ho : d.off = false) (p : Nat) (s : ByteArray) (hs : p + s.size ≤ n) (hl : d.pe.length ≤ 1000000) :
    Calls Tryz.prog 10 #[.pointer (some ⟨bd, 0, none⟩), .int .i64 (p : Int), .string s] w fun e w' =>
      e = .returned (.int .i64 0) ∧ DiskB N w' bd n (writeD d p s) ∧ Below N w w' := by
  obtain ⟨F, a, b, c⟩ := h
  exact (writeF a ho p s hs hl).mono fun e w' ⟨h1, h2⟩ => ⟨h1, DiskB.of b c h2⟩
theorem syncB (h : DiskB N w bd n d) (ho : d.off = false) :
    Calls Tryz.prog 34 #[.pointer (some ⟨bd, 0, none⟩)] w fun e w' => e = .returned (.int .i64 0) ∧ DiskB N w' bd n (syncD d) ∧ Below N w w' := by
  obtain ⟨F, a, b, c⟩ := h
  exact (syncF a ho).mono fun e w' ⟨h1, h2⟩ => ⟨h1, DiskB.of b c h2⟩
theorem cutB (h : DiskB N w bd n d) (ho : d.off = false) (x : Int) (h0 : 0 ≤ x) (h1 : x ≤ 9223372036854775807) :
    Calls Tryz.prog 46 #[.pointer (some ⟨bd, 0, none⟩), .int .i64 x] w fun e w' => e = .returned (.int .i64 0) ∧ DiskB N w' bd n (cutD d x) ∧ Below N w w' := by
  obtain ⟨F, a, b, c⟩ := h
  exact (cutF a ho x h0 h1).mono fun e w' ⟨h1, h2⟩ => ⟨h1, DiskB.of b c h2⟩
end
end Go.Proofs.YthlmgookaljgnaaGreatDoor
namespace Go.Proofs.YthlmgookaljgnaaGreatDoor
open Go.RowKit
set_option linter.unusedVariables false

/-- What strings can be appended to: an empty slice without room, or a row of the call's own. -/
def Grow (B : Nat) (w : World) (v : Value) (xs : List ByteArray) : Prop := (xs = [] ∧ ∃ g, v = .slice (some ⟨g, 0, none⟩) 0 0) ∨ w.ownsRow B 9 1 v xs.length (strV xs)
theorem Grow.empty (B : Nat) (w : World) (g : Nat) : Grow B w (.slice (some ⟨g, 0, none⟩) 0 0) [] := .inl ⟨rfl, g, rfl⟩
theorem Grow.sl {B : Nat} {w : World} {v : Value} {xs : List ByteArray} (h : Grow B w v xs) : SL w v xs := by
  rcases h with ⟨rfl, ad, rfl⟩ | h
  · exact ⟨some ⟨ad, 0, none⟩, 0, rfl, Nat.le_refl _, fun h => absurd h (by simp)⟩
  · exact SL_own h
theorem Grow.alloc {B : Nat} {w : World} {v : Value} {xs : List ByteArray} (h : Grow B w v xs) (o : Obj) : Grow B (w.alloc o) v xs := h.imp id (fun k => k.alloc o)
theorem sl_cells {w : World} {ad : Addr} {c : Nat} {ys : List ByteArray} (h : SL w (.slice (some ad) ys.length c) ys) : ∀ j u, (strV ys)[j]? = some u → w.cell? (ad.add j) = some u := fun j u hu => by
  have hj : j < ys.length := by
    have := (List.getElem?_eq_some_iff.1 hu).1
    simpa [strV] using this
  obtain ⟨b, off, c', e, _, hb, hc⟩ := h.out (by omega)
  injection e with e1 e2 e3
  injection e1 with e1
  subst e1
  have hadd : (⟨b, off, none⟩ : Addr).add j = ⟨b, off + j, none⟩ := by
    unfold Addr.add
    by_cases h : j = 0
    · subst h; simp
    · simp [h]
  rw [hadd, hc j ys[j] (List.getElem?_eq_getElem hj), ← hu]
  simp [strV, hj]
theorem str_one (ys : List ByteArray) : ∀ u ∈ strV ys, u.oneCell' = true := fun u hu => by
  simp only [strV, List.mem_map] at hu
  obtain ⟨y, _, rfl⟩ := hu
  rfl
theorem run_append_none0 {P : Program} {w : World} (t ty e : TypeId) (i : TypeInfo) (c : Nat) (ht : P.underlying t = some (.slice e)) (hi : P.info? e = some i) (ad : Addr) :
    (Builtin.append_ #[t, t] ty #[.slice (some ad) 0 0, .slice none 0 c]).run P w = .ok (.slice (some ad) 0 0) w := by
  simp [Builtin.append_, run_underlying ht, sizeOf, typeInfo, hi, Builtin.lenOf, Builtin.firstCells, storeCells]
theorem run_append_some0 {P : Program} {w : World} (t ty e : TypeId) (i : TypeInfo) (c : Nat) (ht : P.underlying t = some (.slice e)) (hi : P.info? e = some i) (g : Nat) (bd : Addr) :
    (Builtin.append_ #[t, t] ty #[.slice (some ⟨g, 0, none⟩) 0 0, .slice (some bd) 0 c]).run P w = .ok (.slice (some ⟨g, 0, none⟩) 0 0) w := by
  have h := run_append_room_cells (P := P) w t ty e i ht hi g 0 0 0 bd 0 c [] (by simp) (fun j u hu => by cases hu) (fun u hu => by cases hu) (Nat.le_refl _) (fun j hj => by simp at hj) (fun j hj => by simp at hj)
  simpa [World.setCells] using h

/-- append([]string{}, ys...) -/
theorem run_append_empty {w : World} (ty : TypeId) (g0 : Nat) (v2 : Value) (ys : List ByteArray) (hsl : SL w v2 ys) (hn : ys.length ≤ 1000000) (B : Nat) (hB : B ≤ w.heap.size) :
    ∃ v' w', (Builtin.append_ #[22, 22] ty #[.slice (some ⟨g0, 0, none⟩) 0 0, v2]).run Tryz.prog w = .ok v' w' ∧ Grow B w' v' ys ∧ Below w.heap.size w w' := by
  obtain ⟨i0, hi, hz0, hz1, hz2⟩ := info_parts Tryz.infoStr
  obtain ⟨bd, c, e, hc, hcs⟩ := hsl.form
  subst e
  by_cases h0 : ys.length = 0
  · have hy : ys = [] := List.eq_nil_of_length_eq_zero h0
    subst hy
    rw [show ([] : List ByteArray).length = 0 from rfl]
    cases bd with
    | none => exact ⟨_, _, run_append_none0 22 ty 9 i0 c Tryz.underlying22 hi ⟨g0, 0, none⟩, Grow.empty _ _ _, Below.refl _ _⟩
    | some bd => exact ⟨_, _, run_append_some0 22 ty 9 i0 c Tryz.underlying22 hi g0 bd, Grow.empty _ _ _, Below.refl _ _⟩
  · obtain ⟨b, off, e, hb, _⟩ := hcs (by omega)
    subst e
    obtain ⟨v', w', hr, ho, hg⟩ := run_append_arg_grows (P := Tryz.prog) w 22 ty 9 i0 _ 1 16 Tryz.underlying22 hi hz0 hz1 hz2 rfl (by decide) ⟨g0, 0, none⟩ 0 0 [] rfl (fun j u hu => by cases hu) ⟨b, off, none⟩ ys.length c (strV ys) (by simp [strV]) (sl_cells hsl) (by omega) (by simp only [maxLen]; omega) (by omega)
    refine ⟨v', w', hr, .inr ?_, (Below.refl _ _).grown hg (Nat.le_refl _) (by simp)⟩
    rw [Nat.zero_add, List.nil_append] at ho
    exact ⟨ho.1, ho.2.imp id (fun ⟨g, c, cu, e1, e2, r⟩ => ⟨g, c, cu, e1, Nat.le_trans hB e2, r⟩)⟩
theorem step_append_empty {w : World} {ops : Array Oper} {o : Oper} {a : Act} {K : Act → World → Prop} {Q : Exit → Act → World → Prop} {E : Prop} (hgd : o.guard = none) (s x : Operand)
    (ho : o.op = .call { callee := .builtin .append, args := #[s, x], argTypes := #[22, 22] }) (g0 : Nat) (hs : a.eval s = .slice (some ⟨g0, 0, none⟩) 0 0)
    (v2 : Value) (ys : List ByteArray) (hx : a.eval x = v2) (hsl : SL w v2 ys) (hn : ys.length ≤ 1000000) (B : Nat) (hB : B ≤ w.heap.size)
    (h : ∀ v' w', Grow B w' v' ys → Below w.heap.size w w' → K (a.put o.dst v') w') :
    if Region.wanted o (yielded ops a.tmps) = true then Oper.wp Tryz.prog o a w K Q else E := by
  have hw : Region.wanted o (yielded ops a.tmps) = true := by simp [Region.wanted, hgd]
  rw [if_pos hw]
  obtain ⟨v', w', hr, h1, h2⟩ := run_append_empty o.type g0 v2 ys hsl hn B hB
  unfold Oper.wp execOp
  simp only [ho, resolve, invoke, builtin, Sem.run_bind, Sem.run_pure, Result.andThen_ok, List.map_toArray, List.map_cons, List.map_nil, hs, hx, hr]
  exact h v' w' h1 h2
/-- append(v, ys...) where v came of such a one -/
theorem step_append_grow {w : World} {ops : Array Oper} {o : Oper} {a : Act} {K : Act → World → Prop} {Q : Exit → Act → World → Prop} {E : Prop} (hgd : o.guard = none) (s x : Operand)
    (ho : o.op = .call { callee := .builtin .append, args := #[s, x], argTypes := #[22, 22] }) (B : Nat) (v : Value) (xs : List ByteArray) (hs : a.eval s = v) (hg : Grow B w v xs)
    (v2 : Value) (ys : List ByteArray) (hx : a.eval x = v2) (hsl : SL w v2 ys) (hn : xs.length + ys.length ≤ 1000000) (hB : B ≤ w.heap.size)
    (h : ∀ v' w', Grow B w' v' (xs ++ ys) → Below B w w' → K (a.put o.dst v') w') :
    if Region.wanted o (yielded ops a.tmps) = true then Oper.wp Tryz.prog o a w K Q else E := by
  rcases hg with ⟨rfl, ad, rfl⟩ | hg
  · exact step_append_empty hgd s x ho ad hs v2 ys hx hsl (by simp at hn; omega) B hB (fun v' w' h1 h2 => h v' w' h1 (h2.mono hB))
  · exact step_append_sl hgd s x ho B v xs.length xs hs hg v2 ys hx hsl hn hB (fun v' w' h1 h2 => h v' w' (.inr (by rw [List.length_append]; exact h1)) ((Below.refl B w).grown h2 hB (fun j e => (hg.lt j (by first | exact e | simpa using e)).1)))
theorem SL_lit (W : World) (r : ByteArray) : SL (W.alloc (.cells #[.string r] 9)) (.slice (some ⟨W.heap.size, 0, none⟩) 1 1) [r] := SL_own (own_lit W [r] 0 (Nat.zero_le _) (by simp))
end Go.Proofs.YthlmgookaljgnaaGreatDoor
namespace Go.Proofs.YthlmgookaljgnaaGreatDoor
open Go.RowKit
set_option linter.unusedVariables false

theorem run_append_clone {w : World} (ty : TypeId) (g0 : Nat) (B : Nat) (hB : B ≤ g0) (hg0 : w.heap[g0]? = some (.cells #[] 9 (0, 0))) (v2 : Value) (ys : List ByteArray) (hsl : SL w v2 ys) (hn : ys.length ≤ 1000000) :
    ∃ v' w', (Builtin.append_ #[22, 22] ty #[.slice (some ⟨g0, 0, none⟩) 0 0, v2]).run Tryz.prog w = .ok v' w' ∧ w'.ownsRow B 9 1 v' ys.length (strV ys) ∧ Below w.heap.size w w' := by
  obtain ⟨i0, hi, hz0, hz1, hz2⟩ := info_parts Tryz.infoStr
  obtain ⟨bd, c, e, hc, hcs⟩ := hsl.form
  subst e
  have hE : w.ownsRow B 9 1 (.slice (some ⟨g0, 0, none⟩) 0 0) 0 (strV []) := ⟨rfl, .inr ⟨g0, 0, #[], rfl, hB, hg0, Nat.le_refl _, Nat.zero_le _, rfl, rfl⟩⟩
  by_cases h0 : ys.length = 0
  · have hy : ys = [] := List.eq_nil_of_length_eq_zero h0
    subst hy
    rw [show ([] : List ByteArray).length = 0 from rfl]
    cases bd with
    | none => exact ⟨_, _, run_append_none0 22 ty 9 i0 c Tryz.underlying22 hi ⟨g0, 0, none⟩, hE, Below.refl _ _⟩
    | some bd => exact ⟨_, _, run_append_some0 22 ty 9 i0 c Tryz.underlying22 hi g0 bd, hE, Below.refl _ _⟩
  · obtain ⟨b, off, e, hb, _⟩ := hcs (by omega)
    subst e
    obtain ⟨v', w', hr, ho, hg⟩ := run_append_arg_grows (P := Tryz.prog) w 22 ty 9 i0 _ 1 16 Tryz.underlying22 hi hz0 hz1 hz2 rfl (by decide) ⟨g0, 0, none⟩ 0 0 [] rfl (fun j u hu => by cases hu) ⟨b, off, none⟩ ys.length c (strV ys) (by simp [strV]) (sl_cells hsl) (by omega) (by simp only [maxLen]; omega) (by omega)
    refine ⟨v', w', hr, ?_, (Below.refl _ _).grown hg (Nat.le_refl _) (by simp)⟩
    rw [Nat.zero_add, List.nil_append] at ho
    exact ⟨ho.1, ho.2.imp id (fun ⟨g, c, cu, e1, e2, r⟩ => ⟨g, c, cu, e1, Nat.le_trans (Nat.le_trans hB (Nat.le_of_lt (ltOf hg0))) e2, r⟩)⟩
theorem wpList_append_clone {w : World} {ops : Array Oper} {rest : List Oper} {o : Oper} {a : Act} {Q : Exit → Act → World → Prop} (hgd : o.guard = none) (s x : Operand)
    (ho : o.op = .call { callee := .builtin .append, args := #[s, x], argTypes := #[22, 22] }) (g0 B : Nat) (hs : a.eval s = .slice (some ⟨g0, 0, none⟩) 0 0) (hB : B ≤ g0) (hg0 : w.heap[g0]? = some (.cells #[] 9 (0, 0)))
    (v2 : Value) (ys : List ByteArray) (hx : a.eval x = v2) (hsl : SL w v2 ys) (hn : ys.length ≤ 1000000)
    (h : ∀ v' w', w'.ownsRow B 9 1 v' ys.length (strV ys) → Below w.heap.size w w' → wpList Tryz.prog ops Q rest (a.put o.dst v') w') : wpList Tryz.prog ops Q (o :: rest) a w :=
  wpList_plain hgd fun _ hK => by
    obtain ⟨v', w', hr, h1, h2⟩ := run_append_clone o.type g0 B hB hg0 v2 ys hsl hn
    unfold Oper.wp execOp
    simp only [ho, resolve, invoke, builtin, Sem.run_bind, Sem.run_pure, Result.andThen_ok, List.map_toArray, List.map_cons, List.map_nil, hs, hx, hr]
    exact hK _ _ (h v' w' h1 h2)

set_option maxRecDepth 100000 in
set_option maxHeartbeats 1000000 in
theorem Clone_any (w : World) (sv : Value) (l : List ByteArray) (hr : w.ownsRow 0 9 1 sv l.length (strV l)) (hn : l.length ≤ 1000000) :
    Calls Tryz.prog 28 #[sv] w fun e w' => ∃ v, e = .returned v ∧ w'.ownsRow w.heap.size 9 1 v l.length (strV l) ∧ Below w.heap.size w w' := by
  have hsl := SL_own hr
  rcases hr.2 with ⟨rfl, hl⟩ | ⟨g, cap, cur, rfl, hb, hg, h1, h2, h3, h4⟩
  · have hl0 : l = [] := List.eq_nil_of_length_eq_zero hl
    subst hl0
    have heq := fun w => Lib.run_eql_slice_nil (P := Tryz.prog) w 22 9 none 0 0 0 0 Tryz.underlying22
    clear hr hsl hl
    go_enter Tryz.func28, Tryz.ntmps28
    go_wp2
    go_ret
    exact ⟨_, rfl, World.ownsRow_nil _ _ _ _, Below.refl _ _⟩
  · have HSL := Lib.hid (hsl.below ((Below.refl _ w).alloc (Nat.le_refl _) (.cells #[] 9)))
    have heq := fun w => Lib.run_eql_slice_nil (P := Tryz.prog) w 22 9 (some ⟨g, 0, none⟩) l.length cap 0 0 Tryz.underlying22
    clear hr hsl hg h1 h2 h3 h4
    go_enter Tryz.func28, Tryz.ntmps28
    go_wp2_with (at_builtin; refine wpList_append_clone rfl (.tmp 5) (.tmp 6) rfl w.heap.size w.heap.size rfl (Nat.le_refl _) (allocAt _ rfl) _ l rfl HSL.out hn ?_; intro v' w' ho hB; have HO := Lib.hid ho; have HB := Lib.hid hB; clear ho hB)
    go_ret
    exact ⟨_, rfl, HO.out, ((Below.refl _ w).alloc (Nat.le_refl _) _).trans (HB.out.mono (by simp))⟩
end Go.Proofs.YthlmgookaljgnaaGreatDoor
namespace Go.Proofs.YthlmgookaljgnaaGreatDoor
open Go.RowKit Go.Shelf
set_option linter.unusedVariables false
set_option linter.unusedSimpArgs false

/-- a journal on a disk: its tape's block jb, whether it is broken -/
def JAt (w : World) (jb bd : Nat) (br : Bool) (lv : Value) (t : TV) : Prop := TapeAt w jb 67 [.pointer (some ⟨bd, 0, none⟩), .bool br] lv t

/-- j.writing(at, s) -/
theorem writing_any (jb : Nat) (x : Int) (s : ByteArray) (w : World) :
    Calls Tryz.prog 33 #[.pointer (some ⟨jb, 0, none⟩), .int .i64 x, .string s] w fun e w' =>
      e = .returned (.func (.func 56) #[] #[.pointer (some ⟨w.heap.size, 0, none⟩), .pointer (some ⟨w.heap.size + 1, 0, none⟩), .pointer (some ⟨w.heap.size + 2, 0, none⟩)]) ∧
      ((w.alloc (.cells #[.pointer (some ⟨jb, 0, none⟩)] 28)).alloc (.cells #[.int .i64 x] 3)).alloc (.cells #[.string s] 9) = w' := by
  have hmf : ∀ (fn : Fn) (first cap : Array Value) (w : World), (Instr.makeFunc fn first cap).run Tryz.prog w = .ok (.func fn first cap) w := fun _ _ _ _ => rfl
  go_enter Tryz.func33, Tryz.ntmps33
  go_wp2
  go_ret
  exact ⟨rfl, rfl⟩

set_option maxHeartbeats 1000000 in
/-- the closure: a call of Write -/
theorem writing1_any {R : Ending → World → Prop} (b0 b1 b2 jb bd : Nat) (x : Int) (s : ByteArray) (w : World) (h0 : w.cell? ⟨b0, 0, none⟩ = some (.pointer (some ⟨jb, 0, none⟩))) (h1 : w.cell? ⟨b1, 0, none⟩ = some (.int .i64 x)) (h2 : w.cell? ⟨b2, 0, none⟩ = some (.string s))
    (h3 : w.cell? ⟨jb, 3, none⟩ = some (.pointer (some ⟨bd, 0, none⟩)))
    (hW : Calls Tryz.prog 10 #[.pointer (some ⟨bd, 0, none⟩), .int .i64 x, .string s] w.drew fun e w' => ∃ c, e = .returned (.int .i64 c) ∧ R (.returned (.int .i64 c)) w' ∧ w'.cell? ⟨b0, 0, none⟩ = w.cell? ⟨b0, 0, none⟩ ∧ w'.cell? ⟨b1, 0, none⟩ = w.cell? ⟨b1, 0, none⟩ ∧ w'.cell? ⟨b2, 0, none⟩ = w.cell? ⟨b2, 0, none⟩ ∧ w'.cell? ⟨jb, 3, none⟩ = w.cell? ⟨jb, 3, none⟩) :
    Calls Tryz.prog 56 #[.pointer (some ⟨b0, 0, none⟩), .pointer (some ⟨b1, 0, none⟩), .pointer (some ⟨b2, 0, none⟩)] w R := by
  have HW := Lib.hid hW
  clear hW
  go_enter Tryz.func56, Tryz.ntmps56
  go_wp2
  go_region_held3 (fun w' => w'.cell? ⟨b0, 0, none⟩ = some (.pointer (some ⟨jb, 0, none⟩)) ∧ w'.cell? ⟨b1, 0, none⟩ = some (.int .i64 x) ∧ w'.cell? ⟨b2, 0, none⟩ = some (.string s) ∧ w'.cell? ⟨jb, 3, none⟩ = some (.pointer (some ⟨bd, 0, none⟩)))
    ((first | exact ⟨h0, h1, h2, h3⟩ | exact ⟨k0, k1, k2, k3⟩))
    (first
      | (go_at_call 10
         refine HW.out.mono ?_
         rintro e W2 ⟨c, rfl, hR, k0, k1, k2, k3⟩
         rw [h0] at k0
         rw [h1] at k1
         rw [h2] at k2
         rw [h3] at k3
         have HRR := Lib.hid hR
         clear hR)
      | fail)
  all_goals
    go_wp2
    exact HRR.out
theorem DiskF.drew {w : World} {bd n : Nat} {d : DV} {F : Nat → Prop} (h : DiskF w bd n d F) : DiskF w.drew bd n d F := h.upd ((Upd.refl (fun _ => False) w).drew) (fun _ _ f => f)

set_option maxHeartbeats 1000000 in
theorem Room_any {w : World} {jb bd n : Nat} {br : Bool} {lv : Value} {t : TV} {d : DV} {F : Nat → Prop} (h : JAt w jb bd br lv t) (hd : DiskF w bd n d F) :
    Calls Tryz.prog 17 #[.pointer (some ⟨jb, 0, none⟩)] w fun e w' => e = .returned (.int .i64 ((n : Int) - (t.size : Int))) ∧ Below w.heap.size w w' := by
  have c2 : w.cell? ⟨jb, 2, none⟩ = some (.int .i64 (t.size : Int)) := cellOf h.cells 2
  have c3 : w.cell? ⟨jb, 3, none⟩ = some (.pointer (some ⟨bd, 0, none⟩)) := cellOf h.cells 3
  have hn := hd.size_pos.2.1
  have hsz := h.sz
  have HS := Lib.hid (sizeF hd.drew)
  have hw : IntKind.i64.wrap ((n : Int) - (t.size : Int)) = (n : Int) - (t.size : Int) := by rw [IntKind.wrap_i64]; omega
  clear h hd
  go_enter Tryz.func17, Tryz.ntmps17
  go_wp2
  go_region_held3 (fun w' => w'.cell? ⟨jb, 2, none⟩ = some (.int .i64 (t.size : Int)) ∧ w'.cell? ⟨jb, 3, none⟩ = some (.pointer (some ⟨bd, 0, none⟩)))
    (exact ⟨c2, c3⟩)
    (first
      | (go_at_call 43
         refine HS.out.mono ?_
         rintro e W2 ⟨rfl, rfl⟩)
      | fail)
  all_goals
    go_wp2
    go_ret
    exact ⟨rfl, (Below.refl _ _).drew⟩
theorem Room_nil (w : World) : Calls Tryz.prog 17 #[.pointer none] w fun e w' => e = .returned (.int .i64 0) ∧ w = w' := by
  go_enter Tryz.func17, Tryz.ntmps17
  go_wp2
  go_ret
  exact ⟨rfl, rfl⟩
theorem Records_nil (w : World) : Calls Tryz.prog 16 #[.pointer none] w fun e w' => e = .returned (.slice none 0 0) ∧ w = w' := by
  go_enter Tryz.func16, Tryz.ntmps16
  go_wp2
  go_ret
  exact ⟨rfl, rfl⟩
set_option maxHeartbeats 1000000 in
theorem Records_any {w : World} {jb bd : Nat} {br : Bool} {lv : Value} {t : TV} (h : JAt w jb bd br lv t) :
    Calls Tryz.prog 16 #[.pointer (some ⟨jb, 0, none⟩)] w fun e w' => ∃ v, e = .returned v ∧ w'.ownsRow w.heap.size 9 1 v t.recs.length (strV t.recs) ∧ Below w.heap.size w w' := by
  have c0 : w.cell? ⟨jb, 0, none⟩ = some lv := cellOf h.cells 0
  have CL := Lib.hid (Clone_any w lv t.recs h.row h.ln)
  clear h
  go_enter Tryz.func16, Tryz.ntmps16
  go_wp2_with fail
  refine CL.out.mono ?_
  rintro e W2 ⟨v, rfl, hO, hB⟩
  have HO := Lib.hid hO
  have HB := Lib.hid hB
  clear hO hB
  go_wp2
  go_ret
  exact ⟨_, rfl, HO.out, HB.out⟩
end Go.Proofs.YthlmgookaljgnaaGreatDoor
namespace Go.Proofs.YthlmgookaljgnaaGreatDoor
open Go.RowKit Go.Shelf
set_option linter.unusedVariables false
set_option linter.unusedSimpArgs false

theorem Open_nil (w : World) : Calls Tryz.prog 24 #[.pointer none] w fun e w' => e = .returned (.tuple #[.pointer none, .int .i64 1]) ∧ w = w' := by
  go_enter Tryz.func24, Tryz.ntmps24
  go_wp2
  go_ret2
  exact ⟨rfl, rfl⟩

/-- all that is on a disk -/
def diskB (d : DV) : ByteArray := ⟨d.vi.toArray⟩

set_option maxRecDepth 100000 in
set_option maxHeartbeats 2000000 in
theorem Open_bad {w : World} {bd n : Nat} {d : DV} {F : Nat → Prop} (h : DiskF w bd n d F) (ho : d.off = false) (hn : n ≤ 900000) (hR : RoundLaid w) (a : Addr) (hD : DamLaid a w) (hP : loadP (diskB d) (n + 1) tv0 = none) :
    Calls Tryz.prog 24 #[.pointer (some ⟨bd, 0, none⟩)] w fun e w' => e = .returned (.tuple #[.pointer none, .int .i64 262]) ∧ Below w.heap.size w w' := by
  have hsz : (diskB d).size = n := by rw [diskB]; show d.vi.toArray.size = n; rw [List.size_toArray]; exact h.size_pos.2.2.1
  have SZ := Lib.hid (sizeF h)
  have RD := Lib.hid (readF_all h ho)
  have OP := Lib.hid (openj_bad bd (diskB d) (by omega) w hR a hD (by rw [hsz]; exact hP))
  rw [show (⟨d.vi.toArray⟩ : ByteArray) = diskB d from rfl] at RD
  clear h ho hR hD hP
  generalize diskB d = s at *
  go_enter Tryz.func24, Tryz.ntmps24
  go_wp2_with (first
    | (go_at_call 43; refine SZ.out.mono ?_; rintro e w' ⟨rfl, rfl⟩)
    | (go_at_call 44; refine RD.out.mono ?_; rintro e w' ⟨rfl, rfl⟩)
    | (go_at_call 50; refine OP.out.mono ?_; rintro e w' ⟨rfl, hB⟩; have HB := Lib.hid hB; clear hB))
  go_ret2
  exact ⟨rfl, HB.out⟩
theorem trim_zeros (l : List UInt8) (h : ∀ x ∈ l, x = 0) : Lib.trimB l 0 = [] := by
  have h1 : ∀ m : List UInt8, (∀ x ∈ m, x = 0) → m.dropWhile (· == 0) = [] := by
    intro m
    induction m with
    | nil => intro _; rfl
    | cons y m ih => intro hm; rw [List.dropWhile_cons, if_pos (by rw [hm y (by simp)]; rfl)]; exact ih (fun x hx => hm x (by simp [hx]))
  unfold Lib.trimB Lib.trimRightB Lib.trimLeftB
  rw [h1 l.reverse (fun x hx => h x (by simpa using hx))]
  rfl

set_option maxRecDepth 100000 in
set_option maxHeartbeats 2000000 in
theorem Open_same {w : World} {bd n : Nat} {d : DV} {F : Nat → Prop} (h : DiskF w bd n d F) (ho : d.off = false) (hn : n ≤ 900000) (hR : RoundLaid w) (a : Addr) (hD : DamLaid a w) (t' : TV) (hP : loadP (diskB d) (n + 1) tv0 = some t') (hz : ∀ x ∈ d.vi.drop t'.size, x = 0) :
    Calls Tryz.prog 24 #[.pointer (some ⟨bd, 0, none⟩)] w fun e w' => ∃ jb lv, e = .returned (.tuple #[.pointer (some ⟨jb, 0, none⟩), .int .i64 0]) ∧ w.heap.size ≤ jb ∧ JAt w' jb bd false lv t' ∧
      (∀ g, lv.ownBlock = some g → w.heap.size ≤ g) ∧ Below w.heap.size w w' ∧ t'.size ≤ n ∧ t'.recs.length ≤ t'.size := by
  have hsz : (diskB d).size = n := by rw [diskB]; show d.vi.toArray.size = n; rw [List.size_toArray]; exact h.size_pos.2.2.1
  have SZ := Lib.hid (sizeF h)
  have RD := Lib.hid (readF_all h ho)
  have OP := Lib.hid (openj_ok bd (diskB d) (by omega) w hR a hD t' (by rw [hsz]; exact hP))
  rw [show (⟨d.vi.toArray⟩ : ByteArray) = diskB d from rfl] at RD
  have TR : Hid (∀ W, Calls Tryz.prog 51 #[.string ((diskB d).extract t'.size n), .string ⟨#[0]⟩] W fun e w' => e = .returned (.string ⟨#[]⟩) ∧ (w' = W ∨ w' = W.drew)) := Lib.hid (fun W => by
    have := Tryz.strings_Trim_one ((diskB d).extract t'.size n) 0 (by decide) W (by rw [ByteArray.size_extract]; omega)
    rw [trim_zeros _ (fun x hx => hz x (by
      have e : ((diskB d).extract t'.size n).data.toList = (d.vi.drop t'.size).take (n - t'.size) := by
        rw [diskB, ByteArray.data_extract, Array.toList_extract, List.extract_eq_take_drop]
      rw [e] at hx
      exact List.mem_of_mem_take hx))] at this
    exact this)
  clear h ho hR hD hP hz
  generalize diskB d = s at *
  go_enter Tryz.func24, Tryz.ntmps24
  go_wp2_with (first
    | (go_at_call 43; refine SZ.out.mono ?_; rintro e w' ⟨rfl, rfl⟩)
    | (go_at_call 44; refine RD.out.mono ?_; rintro e w' ⟨rfl, rfl⟩)
    | (go_at_call 50
       refine OP.out.mono ?_
       rintro e w' ⟨jb, lv, rfl, hj, hT, hl, hB, h1, h2⟩
       have c2 : w'.cell? ⟨jb, 2, none⟩ = some (.int .i64 (t'.size : Int)) := cellOf hT.cells 2
       have h1i : (t'.size : Int) ≤ (s.size : Int) := by omega
       have HB := Lib.hid hB
       have HT := Lib.hid hT
       clear hB hT)
    | fail)
  refine (TR.out _).mono ?_
  rintro e w'' ⟨rfl, hw⟩
  have FIN : Hid (JAt w'' jb bd false lv t' ∧ Below w.heap.size w w'') := Lib.hid (by
    rcases hw with rfl | rfl
    · exact ⟨HT.out, HB.out⟩
    · exact ⟨HT.out.below (Below.refl _ _).drew, HB.out.drew⟩)
  clear hw c2
  go_wp2
  go_ret2
  exact ⟨jb, lv, rfl, hj, FIN.out.1, hl, FIN.out.2, by omega, h2⟩
end Go.Proofs.YthlmgookaljgnaaGreatDoor
namespace Go.Proofs.YthlmgookaljgnaaGreatDoor
open Go.RowKit Go.Shelf
set_option linter.unusedVariables false

theorem Tryz.sizeBld : (Tryz.prog.info? 71).map (·.size) = some 2 := by kernel_rfl
theorem Tryz.liesBld : liesAt Tryz.prog Tryz.prog.depth 71 (2 / Tryz.prog.cellsOf 71) 0 71 1 = true := by kernel_rfl
theorem Tryz.callNoEscape (v : Value) (w : World) : (callFunc 78 #[v]).run Tryz.prog w = .ok (.value v) w := by
  rw [run_callFunc_extern Tryz.func78 (by kernel_rfl) (by kernel_rfl) (by kernel_rfl) (e := Extern.AbiNoEscape.same) (by kernel_rfl), Lib.run_noEscape]; rfl

set_option maxHeartbeats 1000000 in
set_option maxRecDepth 100000 in
theorem copyCheck_fresh (b : Nat) (w : World) (v : Value) (h : w.heap[b]? = some (.cells #[.pointer none, v] 71 (0, 0))) :
    Calls Tryz.prog 53 #[.pointer (some ⟨b, 0, none⟩)] w fun e w' => e = .returned (.tuple #[]) ∧ w' = w.setCell ⟨b, 0, none⟩ (.pointer (some ⟨b, 0, none⟩)) := by
  obtain ⟨j, hj, hjs⟩ := Option.map_eq_some_iff.1 Tryz.sizeBld
  have h0 : w.cell? ⟨b, 0, none⟩ = some (.pointer none) := cellOf h 0
  have f0 : w.frozen? ⟨b, 0, none⟩ = false := frozenOf h 0
  have hsh : w.shape? b = some (71, 2) := by simp [World.shape?, h]
  have hcu := Lib.run_to_unsafe (P := Tryz.prog) w ⟨b, 0, none⟩ Tryz.underlying69 Tryz.underlying132 hj (by rw [hjs]; decide) hsh (Nat.zero_lt_succ 1)
  have hne := Tryz.callNoEscape
  have hcf := Lib.run_from_unsafe (P := Tryz.prog) w ⟨b, 0, none⟩ Tryz.underlying132 Tryz.underlying69 hj hsh Tryz.liesBld
  clear h hsh
  go_enter Tryz.func53, Tryz.ntmps53
  go_wp2
  go_end0
  exact ⟨rfl, rfl⟩
set_option maxHeartbeats 1000000 in
theorem copyCheck_used (b : Nat) (w : World) (v : Value) (h : w.heap[b]? = some (.cells #[.pointer (some ⟨b, 0, none⟩), v] 71 (0, 0))) :
    Calls Tryz.prog 53 #[.pointer (some ⟨b, 0, none⟩)] w fun e w' => e = .returned (.tuple #[]) ∧ w' = w := by
  obtain ⟨j, hj, hjs⟩ := Option.map_eq_some_iff.1 Tryz.sizeBld
  have h0 : w.cell? ⟨b, 0, none⟩ = some (.pointer (some ⟨b, 0, none⟩)) := cellOf h 0
  have hnq := fun w => Lib.run_neq_ptr_same (P := Tryz.prog) w ⟨b, 0, none⟩ Tryz.underlying69 hj
  clear h
  go_enter Tryz.func53, Tryz.ntmps53
  go_wp2
  go_end0
  exact ⟨rfl, rfl⟩
theorem copyCheck_any (B b : Nat) (bs : List Value) (w : World) (h : Lib.IsBuilder 71 5 B b bs w) :
    Calls Tryz.prog 53 #[.pointer (some ⟨b, 0, none⟩)] w fun e w' => e = .returned (.tuple #[]) ∧ (Lib.BuilderAt 71 5 B b (.pointer (some ⟨b, 0, none⟩)) bs w' ∧ Below B w w' ∧ Lib.OthersKept 5 (some b) w w') := by
  rcases h with h | h
  · have h' := h
    obtain ⟨hB, v, hb, _⟩ := h'
    refine (copyCheck_fresh b w v hb).mono ?_
    rintro e w' ⟨rfl, rfl⟩
    exact ⟨rfl, h.used _, (Below.refl B w).setCell (p := ⟨b, 0, none⟩) h.1 _, fun k o hk hb' _ => (setNe (fun e => hb' (by rw [e])) _ _).trans hk⟩
  · have h' := h
    obtain ⟨hB, v, hb, _⟩ := h'
    refine (copyCheck_used b w v hb).mono ?_
    rintro e w' ⟨rfl, rfl⟩
    exact ⟨rfl, h, Below.refl B _, Lib.OthersKept.refl _ _ _⟩

set_option maxHeartbeats 2000000 in
set_option maxRecDepth 100000 in
/-- WriteString -/
theorem WriteStr_any (B b : Nat) (bs : List Value) (s : ByteArray) (w : World) (h : Lib.IsBuilder 71 5 B b bs w) (hlen : bs.length + s.size ≤ 1000000000) (hBw : B ≤ w.heap.size) :
    Calls Tryz.prog 29 #[.pointer (some ⟨b, 0, none⟩), .string s] w fun e w' => (∃ v, e = .returned v) ∧ (Lib.BuilderAt 71 5 B b (.pointer (some ⟨b, 0, none⟩)) (bs ++ Lib.strCells s) w' ∧ Below B w w' ∧ Lib.OthersKept 5 (some b) w w') := by
  obtain ⟨i0, hi, hz0, hz1, hz2⟩ := info_parts Tryz.infoByte'
  have CC := Lib.hid (copyCheck_any B b bs w h)
  clear h
  go_enter Tryz.func29, Tryz.ntmps29
  go_wp2_with fail
  refine CC.out.mono ?_
  rintro e w1 ⟨rfl, h1, hb1, hk1⟩
  have HK1 := Lib.hid hk1
  clear hk1
  obtain ⟨hB, v, hbk, hown, hne⟩ := h1
  have c0 : w1.cell? ⟨b, 0, none⟩ = some (.pointer (some ⟨b, 0, none⟩)) := cellOf hbk 0
  have c1 : w1.cell? ⟨b, 1, none⟩ = some v := cellOf hbk 1
  have HBK := Lib.hid hbk
  have HNE := Lib.hid hne
  have HB1 := Lib.hid hb1
  have HOW := Lib.hid hown
  clear hbk hne hb1 hown CC
  go_wp2_with (at_builtin; refine Lib.wpList_append_own_string _ rfl _ _ 39 9 rfl B 5 i0 Tryz.underlying39 Tryz.underlying9 hi hz0 hz1 hz2 _ _ _ rfl HOW.out s rfl ?c3 ?c4 ?c5 ?_)
  case c3 => unfold maxLen; omega
  case c4 => omega
  case c5 => have := HB1.out.size; omega
  intro v' w2 hown' hgrow _
  have hb2 : w2.heap[b]? = some (.cells #[.pointer (some ⟨b, 0, none⟩), v] 71 (0, 0)) := by
    rw [hgrow.block b (ltOf HBK.out) (fun e => HNE.out e.symm)]
    exact HBK.out
  have d0 : w2.cell? ⟨b, 0, none⟩ = some (.pointer (some ⟨b, 0, none⟩)) := cellOf hb2 0
  have d1 : w2.cell? ⟨b, 1, none⟩ = some v := cellOf hb2 1
  have f1 : w2.frozen? ⟨b, 1, none⟩ = false := frozenOf hb2 1
  obtain ⟨ao, n', cap, rfl⟩ : ∃ ao n' cap, v' = .slice ao n' cap := by
    rcases hown'.2 with ⟨hv, _⟩ | ⟨g, cap, cur, hv, _⟩
    · exact ⟨_, _, _, hv⟩
    · exact ⟨_, _, _, hv⟩
  have HW2 := Lib.hid hb2
  have HO2 := Lib.hid hown'
  have HG2 := Lib.hid hgrow
  clear hb2 hown' hgrow
  go_wp2
  go_ret2
  refine ⟨⟨_, rfl⟩, ?_, ?_, ?_⟩
  · exact Lib.BuilderAt.put hB HW2.out (bs' := bs ++ Lib.strCells s) (by simpa [Lib.strCells_length] using HO2.out) (by decide)
  · exact (HB1.out.grown HG2.out (by have := HB1.out.size; omega) (fun k hk => (HOW.out.lt k hk).1)).setCell (p := ⟨b, 1, none⟩) hB _
  · refine HK1.out.trans fun k o hk hb' ho => ?_
    refine (setNe (fun e => hb' (by rw [e])) _ _).trans ?_
    rw [HG2.out.block k (ltOf hk) (fun e => ?_)]
    · exact hk
    · rcases HOW.out.2 with ⟨e1, _⟩ | ⟨g, cap, cur, e1, _, hg, _⟩
      · rw [e1] at e; cases e
      · rw [e1] at e
        injection e with e
        subst e
        exact ho _ _ (Option.some.inj (hk.symm.trans hg))
end Go.Proofs.YthlmgookaljgnaaGreatDoor
namespace Go.Proofs.YthlmgookaljgnaaGreatDoor
open Go.RowKit Go.Shelf
set_option linter.unusedVariables false

def growT (t : TV) (r : ByteArray) : TV := ⟨t.recs ++ [r], chainB t.head r, t.size + (recE t.head r).size⟩
def growAll (t : TV) (l : List ByteArray) : TV := l.foldl growT t
/-- the bytes of a group -/
def outE (t : TV) : List ByteArray → ByteArray
  | [] => ⟨#[]⟩
  | r :: l => recE t.head r ++ outE (growT t r) l
theorem growAll_snoc (t : TV) (p : List ByteArray) (r : ByteArray) : growAll t (p ++ [r]) = growT (growAll t p) r := by simp [growAll]
theorem outE_snoc (p : List ByteArray) : ∀ (t : TV) (r : ByteArray), outE t (p ++ [r]) = outE t p ++ recE (growAll t p).head r := by
  induction p with
  | nil => intro t r; show recE t.head r ++ ByteArray.empty = ByteArray.empty ++ recE t.head r; rw [ByteArray.append_empty, ByteArray.empty_append]
  | cons x p ih => intro t r; rw [List.cons_append, outE, outE, ih, ByteArray.append_assoc]; rfl
theorem growAll_size (l : List ByteArray) : ∀ t, (growAll t l).size = t.size + (outE t l).size := by
  induction l with
  | nil => intro t; rfl
  | cons x l ih => intro t; rw [outE, ByteArray.size_append]; show (growAll (growT t x) l).size = _; rw [ih]; show t.size + _ + _ = _; omega
theorem growAll_recs (l : List ByteArray) : ∀ t, (growAll t l).recs = t.recs ++ l := by
  induction l with
  | nil => intro t; simp [growAll]
  | cons x l ih => intro t; show (growAll (growT t x) l).recs = _; rw [ih]; simp [growT]
theorem recE_le (h r : ByteArray) : (recE h r).size ≤ r.size + 43 := by
  have := intS_size r.size
  rw [recE, ByteArray.size_append, ByteArray.size_append, chainB, sumB_size, putS, ByteArray.size_append]
  have : (⟨#[1]⟩ : ByteArray).size = 1 := rfl
  omega
theorem outE_le (l : List ByteArray) : ∀ (t : TV) (m : Nat), (∀ r ∈ l, r.size ≤ m) → (outE t l).size ≤ l.length * (m + 43) := by
  induction l with
  | nil => intro t m _; exact Nat.zero_le _
  | cons x l ih =>
    intro t m h
    rw [outE, ByteArray.size_append, List.length_cons, Nat.succ_mul]
    have h1 := ih (growT t x) m (fun r hr => h r (by simp [hr]))
    have h2 := recE_le t.head x
    have h3 := h x (by simp)
    omega
theorem outE_pos (t : TV) (l : List ByteArray) (h : l ≠ []) : 33 ≤ (outE t l).size := by
  cases l with
  | nil => exact absurd rfl h
  | cons x l => rw [outE, ByteArray.size_append]; have := recE_size t.head x; omega

/-- a call of Append: its code, is the journal broken then, its tape, its disk -/
def appJ (n : Nat) (br : Bool) (t : TV) (d : DV) (l : List ByteArray) : Int × Bool × TV × DV :=
  if br = true ∨ l.any (fun r => decide (65536 < r.size)) = true then (260, br, t, d)
  else if (n : Int) - (t.size : Int) < ((outE t l).size : Int) then (261, br, t, d)
  else if l = [] then (0, br, t, d)
  else if d.off = true then (251, true, t, d)
  else if (writeD d (t.size + 1) ((outE t l).extract 1 (outE t l).size)).off = true then (251, true, t, writeD d (t.size + 1) ((outE t l).extract 1 (outE t l).size))
  else if (writeD (syncD (writeD d (t.size + 1) ((outE t l).extract 1 (outE t l).size))) t.size ((outE t l).extract 0 1)).off = true then
    (251, true, t, writeD (syncD (writeD d (t.size + 1) ((outE t l).extract 1 (outE t l).size))) t.size ((outE t l).extract 0 1))
  else (0, br, growAll t l, syncD (writeD (syncD (writeD d (t.size + 1) ((outE t l).extract 1 (outE t l).size))) t.size ((outE t l).extract 0 1)))

theorem long_any (s : ByteArray) (hs : s.size ≤ 1000000000) (w : World) : Calls Tryz.prog 26 (#[.string s] ++ #[]) w fun e w' => e = .returned (.bool (decide (65536 < s.size))) ∧ w = w' := by
  show Calls Tryz.prog 26 #[.string s] w _
  go_enter Tryz.func26, Tryz.ntmps26
  go_wp2
  go_ret
  refine ⟨?_, rfl⟩
  by_cases h : 65536 < s.size <;> simp [h] <;> omega
end Go.Proofs.YthlmgookaljgnaaGreatDoor
namespace Go.Proofs.YthlmgookaljgnaaGreatDoor
open Go.RowKit Go.Shelf
set_option linter.unusedVariables false
set_option linter.unusedSimpArgs false

/-- the three boxes of a function that writes -/
structure WBox (W : World) (b jb : Nat) (x : Int) (s : ByteArray) : Prop where
  b0 : W.heap[b]? = some (.cells #[.pointer (some ⟨jb, 0, none⟩)] 28 (0, 0))
  b1 : W.heap[b + 1]? = some (.cells #[.int .i64 x] 3 (0, 0))
  b2 : W.heap[b + 2]? = some (.cells #[.string s] 9 (0, 0))
theorem WBox.kept {W W' : World} {b jb : Nat} {x : Int} {s : ByteArray} (h : WBox W b jb x s) (hk : ∀ k, b ≤ k → k < b + 3 → W'.heap[k]? = W.heap[k]?) : WBox W' b jb x s :=
  ⟨(hk _ (by omega) (by omega)).trans h.b0, (hk _ (by omega) (by omega)).trans h.b1, (hk _ (by omega) (by omega)).trans h.b2⟩

def dd1 (d : DV) (p : Nat) (s : ByteArray) : DV := writeD d (p + 1) (s.extract 1 s.size)
def dd3 (d : DV) (p : Nat) (s : ByteArray) : DV := writeD (syncD (dd1 d p s)) p (s.extract 0 1)
/-- the disk where a write or a Sync failed -/
def ddB (d : DV) (p : Nat) (s : ByteArray) : DV := if d.off = true then d else if (dd1 d p s).off = true then dd1 d p s else dd3 d p s
def ddI (d : DV) (p : Nat) (s : ByteArray) : Nat → DV
  | 0 => d
  | 1 => dd1 d p s
  | 2 => syncD (dd1 d p s)
  | 3 => dd3 d p s
  | _ => syncD (dd3 d p s)
structure FI (W : World) (bd n : Nat) (d : DV) (p : Nat) (s : ByteArray) (F : Nat → Prop) (k : Nat) (W' : World) : Prop where
  disk : ∃ F', DiskF W' bd n (ddI d p s k) F' ∧ Moves F F' W W'
  o0 : 1 ≤ k → d.off = false
  o1 : 2 ≤ k → (dd1 d p s).off = false
  o3 : 4 ≤ k → (dd3 d p s).off = false

def f4n : Nat → Nat
  | 0 => 56
  | 1 => 34
  | 2 => 56
  | _ => 34
def f4i (bd : Nat) : Nat → Array Value
  | 0 => #[]
  | 1 => #[.pointer (some ⟨bd, 0, none⟩)]
  | 2 => #[]
  | _ => #[.pointer (some ⟨bd, 0, none⟩)]
def f4c (b1 b2 : Nat) : Nat → Array Value
  | 0 => #[.pointer (some ⟨b1, 0, none⟩), .pointer (some ⟨b1 + 1, 0, none⟩), .pointer (some ⟨b1 + 2, 0, none⟩)]
  | 1 => #[]
  | 2 => #[.pointer (some ⟨b2, 0, none⟩), .pointer (some ⟨b2 + 1, 0, none⟩), .pointer (some ⟨b2 + 2, 0, none⟩)]
  | _ => #[]

theorem FI.at {W W' : World} {bd n : Nat} {d : DV} {p : Nat} {s : ByteArray} {F : Nat → Prop} {k : Nat} (h : FI W bd n d p s F k W') {j : Nat} (hj : j < W.heap.size) (hF : ¬ F j) : W'.heap[j]? = W.heap[j]? := by
  obtain ⟨F', _, hm⟩ := h.disk
  exact hm.upd.block j hj hF

/-- a step that writes -/
theorem step_write {W : World} {jb bd n : Nat} {F : Nat → Prop} {W' : World} {b q : Nat} {sx : ByteArray} {dk : DV} {C : Ending → World → Prop}
    (hb : WBox W' b jb (q : Int) sx) (hj : W'.cell? ⟨jb, 3, none⟩ = some (.pointer (some ⟨bd, 0, none⟩))) {F' : Nat → Prop} (hD : DiskF W' bd n dk F') (hm : Moves F F' W W')
    (hnF : ∀ k, b ≤ k → k < b + 3 → ¬ F' k) (hjF : ¬ F' jb) (hq : q + sx.size ≤ n) (hl : dk.pe.length ≤ 1000000)
    (hoff : dk.off = true → C (.returned (.int .i64 251)) W'.drew)
    (hon : dk.off = false → ∀ F2 W2, DiskF W2 bd n (writeD dk q sx) F2 → Moves F F2 W W2 → C (.returned (.int .i64 0)) W2) :
    Calls Tryz.prog 56 #[.pointer (some ⟨b, 0, none⟩), .pointer (some ⟨b + 1, 0, none⟩), .pointer (some ⟨b + 2, 0, none⟩)] W' C := by
  have hjl := World.block_lt_of_cell? _ _ hj
  refine writing1_any b (b + 1) (b + 2) jb bd (q : Int) sx W' (by rw [cellOf hb.b0]; rfl) (by rw [cellOf hb.b1]; rfl) (by rw [cellOf hb.b2]; rfl) hj ?_
  have hD' := hD.drew
  cases ho : dk.off with
  | true =>
    refine (writeF_off hD' ho _ _).mono ?_
    rintro e w' ⟨rfl, rfl⟩
    exact ⟨251, rfl, hoff ho, rfl, rfl, rfl, rfl⟩
  | false =>
    refine (writeF hD' ho q sx hq hl).mono ?_
    rintro e w' ⟨rfl, F2, h2, hm2⟩
    have hm3 : Moves F' F2 W' w' := ⟨Upd.of_drew hm2.1, hm2.2⟩
    have hc : ∀ (x : Addr), ¬ F' x.block → x.block < W'.heap.size → w'.cell? x = W'.cell? x := fun x hx hlt => World.cell?_of_block (w := W') (hm3.upd.block x.block hlt hx)
    exact ⟨0, rfl, hon ho F2 w' h2 (hm.trans hm3), hc _ (hnF b (by omega) (by omega)) (ltOf hb.b0), hc _ (hnF (b + 1) (by omega) (by omega)) (ltOf hb.b1), hc _ (hnF (b + 2) (by omega) (by omega)) (ltOf hb.b2), hc _ hjF hjl⟩
def f4v (bd b1 b2 : Nat) (k : Nat) : Value := .func (.func (f4n k)) (f4i bd k) (f4c b1 b2 k)

set_option maxHeartbeats 1000000 in
theorem first4_any {W : World} {jb bd n : Nat} {d : DV} {p : Nat} {s : ByteArray} {F : Nat → Prop} {b1 b2 g cap : Nat} {ty : TypeId} (hD : DiskF W bd n d F) (h1 : WBox W b1 jb ((p + 1 : Nat) : Int) (s.extract 1 s.size)) (h2 : WBox W b2 jb (p : Int) (s.extract 0 1))
    (hg : W.heap[g]? = some (.cells #[f4v bd b1 b2 0, f4v bd b1 b2 1, f4v bd b1 b2 2, f4v bd b1 b2 3] ty (0, 0))) (hj : W.cell? ⟨jb, 3, none⟩ = some (.pointer (some ⟨bd, 0, none⟩)))
    (n1 : ∀ k, b1 ≤ k → k < b1 + 3 → ¬ F k) (n2 : ∀ k, b2 ≤ k → k < b2 + 3 → ¬ F k) (ng : ¬ F g) (nj : ¬ F jb) (hp : p + s.size ≤ n) (hs : 1 ≤ s.size) (hl : d.pe.length ≤ 100000) :
    Calls Tryz.prog 32 #[.slice (some ⟨g, 0, none⟩) 4 cap] W fun e W' => (e = .returned (.int .i64 0) ∧ FI W bd n d p s F 4 W') ∨ (e = .returned (.int .i64 251) ∧ (∃ F', DiskF W' bd n (ddB d p s) F' ∧ Moves F F' W W') ∧ ¬ (d.off = false ∧ (dd1 d p s).off = false ∧ (dd3 d p s).off = false)) := by
  have hjl := World.block_lt_of_cell? _ _ hj
  have sz1 : (s.extract 1 s.size).size = s.size - 1 := by rw [ByteArray.size_extract]; omega
  have sz0 : (s.extract 0 1).size = 1 := by rw [ByteArray.size_extract]; omega
  have apart : ∀ {k W'} (hI : FI W bd n d p s F k W') (j : Nat), j < W.heap.size → ¬ F j → ∀ F', DiskF W' bd n (ddI d p s k) F' → Moves F F' W W' → ¬ F' j := fun hI j hj' hF F' _ hm hf => by
    rcases hm.2 j hf with e | e
    · exact hF e
    · omega
  have box1 : ∀ {k W'}, FI W bd n d p s F k W' → WBox W' b1 jb ((p + 1 : Nat) : Int) (s.extract 1 s.size) := fun hI => h1.kept fun j j1 j2 => hI.at (by have := ltOf h1.b2; omega) (n1 j j1 j2)
  have box2 : ∀ {k W'}, FI W bd n d p s F k W' → WBox W' b2 jb (p : Int) (s.extract 0 1) := fun hI => h2.kept fun j j1 j2 => hI.at (by have := ltOf h2.b2; omega) (n2 j j1 j2)
  have cj : ∀ {k W'}, FI W bd n d p s F k W' → W'.cell? ⟨jb, 3, none⟩ = some (.pointer (some ⟨bd, 0, none⟩)) := fun hI => (World.cell?_of_block (w := W) (hI.at hjl nj)).trans hj
  refine (first_any g 4 cap (by omega) f4n (f4i bd) (f4c b1 b2) (fun k hk => ?_) (FI W bd n d p s F) (fun c W' => c = 251 ∧ (∃ F', DiskF W' bd n (ddB d p s) F' ∧ Moves F F' W W') ∧ ¬ (d.off = false ∧ (dd1 d p s).off = false ∧ (dd3 d p s).off = false)) (fun k W' hk hI => ?_) (fun k W' hk hI => ?_) W ⟨⟨F, hD, Moves.refl _ _⟩, fun h => by omega, fun h => by omega, fun h => by omega⟩).mono ?_
  · rcases k with _ | _ | _ | _ | k
    · exact enters_of Tryz.func56 (by kernel_rfl) rfl
    · exact enters_of Tryz.func34 (by kernel_rfl) rfl
    · exact enters_of Tryz.func56 (by kernel_rfl) rfl
    · exact enters_of Tryz.func34 (by kernel_rfl) rfl
    · omega
  · rw [cellOf ((hI.at (ltOf hg) ng).trans hg)]
    rcases k with _ | _ | _ | _ | k
    · rfl
    · rfl
    · rfl
    · rfl
    · omega
  · obtain ⟨F', hD', hm⟩ := hI.disk
    have m1 : ∀ j, b1 ≤ j → j < b1 + 3 → ¬ F' j := fun j j1 j2 => apart hI j (by have := ltOf h1.b2; omega) (n1 j j1 j2) F' hD' hm
    have m2 : ∀ j, b2 ≤ j → j < b2 + 3 → ¬ F' j := fun j j1 j2 => apart hI j (by have := ltOf h2.b2; omega) (n2 j j1 j2) F' hD' hm
    have mj : ¬ F' jb := apart hI jb hjl nj F' hD' hm
    have off1 : (dd1 d p s).off = usedOff false d.left := rfl
    rcases k with _ | _ | _ | _ | k
    · show Calls Tryz.prog 56 #[.pointer (some ⟨b1, 0, none⟩), .pointer (some ⟨b1 + 1, 0, none⟩), .pointer (some ⟨b1 + 2, 0, none⟩)] W' _
      refine step_write (box1 hI) (cj hI) hD' hm m1 mj (by rw [sz1]; omega) (by show d.pe.length ≤ _; omega) (fun ho => .inr ⟨251, by decide, rfl, rfl, ⟨F', ?_, ⟨hm.1.drew, hm.2⟩⟩, fun h => by rw [show d.off = true from ho] at h; exact absurd h.1 (by simp)⟩) (fun ho F2 W2 hD2 hm2 => .inl ⟨rfl, ⟨F2, hD2, hm2⟩, fun _ => ho, fun h => by omega, fun h => by omega⟩)
      have : ddB d p s = d := if_pos ho
      rw [this]; exact hD'.drew
    · show Calls Tryz.prog 34 #[.pointer (some ⟨bd, 0, none⟩)] W' _
      cases ho : (dd1 d p s).off with
      | true =>
        refine (syncF_off hD' ho).mono ?_
        rintro e w' ⟨rfl, rfl⟩
        refine .inr ⟨251, by decide, rfl, rfl, ⟨F', ?_, hm⟩, fun h => absurd h.2.1 (by simp)⟩
        have : ddB d p s = dd1 d p s := by unfold ddB; rw [if_neg (by rw [hI.o0 (by omega)]; simp), if_pos ho]
        rw [this]; exact hD'
      | false =>
        refine (syncF hD' ho).mono ?_
        rintro e w' ⟨rfl, F2, hD2, hm2⟩
        exact .inl ⟨rfl, ⟨F2, hD2, hm.trans hm2⟩, fun _ => hI.o0 (by omega), fun _ => ho, fun h => by omega⟩
    · show Calls Tryz.prog 56 #[.pointer (some ⟨b2, 0, none⟩), .pointer (some ⟨b2 + 1, 0, none⟩), .pointer (some ⟨b2 + 2, 0, none⟩)] W' _
      refine step_write (box2 hI) (cj hI) hD' hm m2 mj (by rw [sz0]; omega) (by show ([] : List (Nat × ByteArray)).length ≤ _; simp) (fun ho => ?_) (fun ho F2 W2 hD2 hm2 => .inl ⟨rfl, ⟨F2, hD2, hm2⟩, fun _ => hI.o0 (by omega), fun _ => hI.o1 (by omega), fun h => by omega⟩)
      exact absurd ((show (dd1 d p s).off = true from ho).symm.trans (hI.o1 (by omega))) (by simp)
    · show Calls Tryz.prog 34 #[.pointer (some ⟨bd, 0, none⟩)] W' _
      cases ho : (dd3 d p s).off with
      | true =>
        refine (syncF_off hD' ho).mono ?_
        rintro e w' ⟨rfl, rfl⟩
        refine .inr ⟨251, by decide, rfl, rfl, ⟨F', ?_, hm⟩, fun h => absurd h.2.2 (by simp)⟩
        have : ddB d p s = dd3 d p s := by unfold ddB; rw [if_neg (by rw [hI.o0 (by omega)]; simp), if_neg (by rw [hI.o1 (by omega)]; simp)]
        rw [this]; exact hD'
      | false =>
        refine (syncF hD' ho).mono ?_
        rintro e w' ⟨rfl, F2, hD2, hm2⟩
        exact .inl ⟨rfl, ⟨F2, hD2, hm.trans hm2⟩, fun _ => hI.o0 (by omega), fun _ => hI.o1 (by omega), fun _ => ho⟩
    · omega
  · rintro e W' (⟨rfl, hI⟩ | ⟨c, hc, rfl, rfl, hB⟩)
    · exact .inl ⟨rfl, hI⟩
    · exact .inr ⟨rfl, hB⟩
/-- a journal and its disk, all of whose blocks lie from N on -/
structure JS (N : Nat) (w : World) (jb bd n : Nat) (br : Bool) (t : TV) (d : DV) : Prop where
  parts : ∃ lv F, JAt w jb bd br lv t ∧ DiskF w bd n d F ∧ (∀ k, F k → N ≤ k) ∧ (∀ g, lv.ownBlock = some g → N ≤ g ∧ ¬ F g) ∧ ¬ F jb
  jn : N ≤ jb
  sz : N ≤ w.heap.size
  len : t.recs.length ≤ t.size
  fit : t.size ≤ n

theorem JS.below {N : Nat} {w w' : World} {jb bd n : Nat} {br : Bool} {t : TV} {d : DV} (h : JS N w jb bd n br t d) (hB : Below w.heap.size w w') : JS N w' jb bd n br t d := by
  obtain ⟨lv, F, h1, h2, h3, h4, h5⟩ := h.parts
  exact ⟨⟨lv, F, h1.below hB, h2.upd (Upd.of_below (S := fun _ => False) hB) (fun _ _ f => f), h3, h4, h5⟩, h.jn, Nat.le_trans h.sz hB.size, h.len, h.fit⟩


theorem appJ_ok (n : Nat) (t : TV) (d : DV) (l : List ByteArray) (h1 : ¬ (false = true ∨ l.any (fun r => decide (65536 < r.size)) = true)) (h2 : ¬ (n : Int) - (t.size : Int) < ((outE t l).size : Int)) (h3 : ¬ l = [])
    (o0 : d.off = false) (o1 : (dd1 d t.size (outE t l)).off = false) (o3 : (dd3 d t.size (outE t l)).off = false) : appJ n false t d l = (0, false, growAll t l, syncD (dd3 d t.size (outE t l))) := by
  unfold appJ
  rw [if_neg h1, if_neg h2, if_neg h3, if_neg (by rw [o0]; simp)]
  have e1 : (writeD d (t.size + 1) ((outE t l).extract 1 (outE t l).size)).off = false := o1
  rw [if_neg (by rw [e1]; simp)]
  exact if_neg (by rw [show (writeD (syncD (writeD d (t.size + 1) ((outE t l).extract 1 (outE t l).size))) t.size ((outE t l).extract 0 1)).off = false from o3]; simp)
theorem appJ_bad (n : Nat) (t : TV) (d : DV) (l : List ByteArray) (h1 : ¬ (false = true ∨ l.any (fun r => decide (65536 < r.size)) = true)) (h2 : ¬ (n : Int) - (t.size : Int) < ((outE t l).size : Int)) (h3 : ¬ l = [])
    (hno : ¬ (d.off = false ∧ (dd1 d t.size (outE t l)).off = false ∧ (dd3 d t.size (outE t l)).off = false)) : appJ n false t d l = (251, true, t, ddB d t.size (outE t l)) := by
  unfold appJ ddB
  rw [if_neg h1, if_neg h2, if_neg h3]
  by_cases p0 : d.off = true
  · rw [if_pos p0, if_pos p0]
  · rw [if_neg p0, if_neg p0]
    by_cases p1 : (dd1 d t.size (outE t l)).off = true
    · rw [if_pos p1]; exact if_pos p1
    · rw [if_neg p1]
      refine (if_neg p1).trans (if_pos ?_)
      show (dd3 d t.size (outE t l)).off = true
      cases h3 : (dd3 d t.size (outE t l)).off with
      | true => rfl
      | false => exact absurd ⟨by simpa using p0, by simpa using p1, h3⟩ hno

theorem TapeAt.setBroken {w : World} {jb bd : Nat} {lv : Value} {t : TV} (h : JAt w jb bd false lv t) : JAt (w.setCell ⟨jb, 4, none⟩ (.bool true)) jb bd true lv t := by
  refine ⟨?_, h.row.kept (Lib.grownBy_setCell w jb 4 _) (.inr h.ne), h.ty, h.hd, h.ln, h.sz⟩
  rw [setOf_ h.cells]; rfl
theorem js_bad {N : Nat} {w Wd : World} {jb bd n : Nat} {t : TV} {d d' : DV} {lv : Value} {F F' : Nat → Prop} (h : JS N w jb bd n false t d) (hs : w.heap.size ≤ Wd.heap.size) (hT : JAt Wd jb bd false lv t) (hD : DiskF Wd bd n d' F')
    (hF : ∀ k, F k → N ≤ k) (hl : ∀ g, lv.ownBlock = some g → N ≤ g ∧ ¬ F g) (hlw : ∀ g, lv.ownBlock = some g → g < w.heap.size) (hj : ¬ F jb) (hjw : jb < w.heap.size) (hFF : ∀ k, F' k → F k ∨ w.heap.size ≤ k) :
    JS N (Wd.setCell ⟨jb, 4, none⟩ (.bool true)) jb bd n true t d' := by
  have nj : ¬ F' jb := fun e => (hFF _ e).elim hj (by omega)
  refine ⟨⟨lv, F', TapeAt.setBroken hT, hD.upd ((Upd.refl (fun k => k = jb) Wd).setCell ⟨jb, 4, none⟩ _ (.inl rfl)) (fun k hk e => nj (e ▸ hk)), fun k hk => ?_, fun g e => ⟨(hl g e).1, fun hf => ?_⟩, nj⟩, h.jn, by have := h.sz; simp; omega, h.len, h.fit⟩
  · rcases hFF k hk with e | e
    · exact hF k e
    · exact Nat.le_trans h.sz e
  · rcases hFF g hf with e' | e'
    · exact (hl g e).2 e'
    · have := hlw g e; omega
theorem js_ok {N : Nat} {w Wd : World} {jb bd n bt : Nat} {t tt : TV} {d d' : DV} {lv lvc : Value} {F F' : Nat → Prop} (h : JS N w jb bd n false t d) (hs : w.heap.size ≤ Wd.heap.size) (hT : JAt Wd jb bd false lv t) (hC : TapeAt Wd bt 65 [] lvc tt) (hD : DiskF Wd bd n d' F')
    (hF : ∀ k, F k → N ≤ k) (hFw : ∀ k, F k → k < w.heap.size) (hlc : ∀ g, lvc.ownBlock = some g → w.heap.size ≤ g) (hlF : ∀ g, lvc.ownBlock = some g → ¬ F' g) (hj : ¬ F jb) (hjw : jb < w.heap.size) (hFF : ∀ k, F' k → F k ∨ w.heap.size ≤ k)
    (hle : tt.recs.length ≤ tt.size) (hfi : tt.size ≤ n) :
    JS N (((Wd.setCell ⟨jb, 0, none⟩ lvc).setCell ⟨jb, 1, none⟩ (.string tt.head)).setCell ⟨jb, 2, none⟩ (.int .i64 (tt.size : Int))) jb bd n false tt d' := by
  have nj : ¬ F' jb := fun e => (hFF _ e).elim hj (by omega)
  have hne : lvc.ownBlock ≠ some jb := fun e => by have := hlc _ e; omega
  refine ⟨⟨lvc, F', ⟨?_, ?_, by decide, hC.hd, hC.ln, hC.sz⟩, hD.upd ((((Upd.refl (fun k => k = jb) Wd).setCell ⟨jb, 0, none⟩ _ (.inl rfl)).setCell ⟨jb, 1, none⟩ _ (.inl rfl)).setCell ⟨jb, 2, none⟩ _ (.inl rfl)) (fun k hk e => nj (e ▸ hk)), fun k hk => ?_, fun g e => ⟨Nat.le_trans h.sz (hlc g e), hlF g e⟩, nj⟩, h.jn, by have := h.sz; simp; omega, hle, hfi⟩
  · rw [setOf_ (setOf_ (setOf_ hT.cells 0 lvc) 1 (.string tt.head)) 2 (.int .i64 (tt.size : Int))]; rfl
  · exact ((hC.row.kept (Lib.grownBy_setCell _ jb 0 _) (.inr hne)).kept (Lib.grownBy_setCell _ jb 1 _) (.inr hne)).kept (Lib.grownBy_setCell _ jb 2 _) (.inr hne)
  · rcases hFF k hk with e | e
    · exact hF k e
    · exact Nat.le_trans h.sz e

/-- a journal and its disk, whose blocks are G -/
structure JG (w : World) (jb bd n : Nat) (br : Bool) (t : TV) (d : DV) (G : Nat → Prop) : Prop where
  parts : ∃ lv F, JAt w jb bd br lv t ∧ DiskF w bd n d F ∧ (∀ g, lv.ownBlock = some g → ¬ F g) ∧ ¬ F jb ∧ (∀ k, G k ↔ F k ∨ k = jb ∨ lv.ownBlock = some k)
  len : t.recs.length ≤ t.size
  fit : t.size ≤ n

theorem JG.lt {w : World} {jb bd n : Nat} {br : Bool} {t : TV} {d : DV} {G : Nat → Prop} (h : JG w jb bd n br t d G) {k : Nat} (hk : G k) : k < w.heap.size := by
  obtain ⟨lv, F, h1, h2, h3, h4, h5⟩ := h.parts
  rcases (h5 k).1 hk with e | rfl | e
  · exact h2.lt e
  · exact ltOf h1.cells
  · exact (h1.row.lt _ e).2
theorem JG.upd {S : Nat → Prop} {w w' : World} {jb bd n : Nat} {br : Bool} {t : TV} {d : DV} {G : Nat → Prop} (h : JG w jb bd n br t d G) (hU : Upd S w w') (hS : ∀ k, G k → ¬ S k) : JG w' jb bd n br t d G := by
  obtain ⟨lv, F, h1, h2, h3, h4, h5⟩ := h.parts
  exact ⟨⟨lv, F, h1.kept fun k hk hf => hU.block k hk (hS k ((h5 k).2 (.inr hf))), h2.upd hU (fun k hk => hS k ((h5 k).2 (.inl hk))), h3, h4, h5⟩, h.len, h.fit⟩
theorem JG.below {w w' : World} {jb bd n : Nat} {br : Bool} {t : TV} {d : DV} {G : Nat → Prop} (h : JG w jb bd n br t d G) (hB : Below w.heap.size w w') : JG w' jb bd n br t d G :=
  h.upd (Upd.of_below (S := fun _ => False) hB) (fun _ _ f => f)
theorem Moves.of_below {G : Nat → Prop} {w w' : World} (h : Below w.heap.size w w') : Moves G G w w' := ⟨Upd.of_below h, fun _ h => .inl h⟩
theorem jg_bad {w Wd : World} {jb bd n : Nat} {t : TV} {d d' : DV} {lv : Value} {F F' G : Nat → Prop} (h : JG w jb bd n false t d G) (hT : JAt Wd jb bd false lv t) (hD : DiskF Wd bd n d' F')
    (hl : ∀ g, lv.ownBlock = some g → ¬ F g) (hlw : ∀ g, lv.ownBlock = some g → g < w.heap.size) (hj : ¬ F jb) (hjw : jb < w.heap.size) (hFF : ∀ k, F' k → F k ∨ w.heap.size ≤ k) (hG : ∀ k, G k ↔ F k ∨ k = jb ∨ lv.ownBlock = some k) (hU : Upd F w Wd) :
    ∃ G', JG (Wd.setCell ⟨jb, 4, none⟩ (.bool true)) jb bd n true t d' G' ∧ Moves G G' w (Wd.setCell ⟨jb, 4, none⟩ (.bool true)) := by
  have nj : ¬ F' jb := fun e => (hFF _ e).elim hj (by omega)
  refine ⟨fun k => F' k ∨ k = jb ∨ lv.ownBlock = some k, ⟨⟨lv, F', TapeAt.setBroken hT, hD.upd ((Upd.refl (fun k => k = jb) Wd).setCell ⟨jb, 4, none⟩ _ (.inl rfl)) (fun k hk e => nj (e ▸ hk)), fun g e hf => ?_, nj, fun _ => Iff.rfl⟩, h.len, h.fit⟩, ?_, fun k hk => ?_⟩
  · rcases hFF g hf with e' | e'
    · exact hl g e e'
    · have := hlw g e; omega
  · exact (hU.mono (fun k _ hk => (hG k).2 (.inl hk))).setCell ⟨jb, 4, none⟩ _ (.inl ((hG jb).2 (.inr (.inl rfl))))
  · rcases hk with hk | hk
    · exact (hFF k hk).imp (fun e => (hG k).2 (.inl e)) id
    · exact .inl ((hG k).2 (.inr hk))
theorem jg_ok {w Wd : World} {jb bd n bt : Nat} {t tt : TV} {d d' : DV} {lv lvc : Value} {F F' G : Nat → Prop} (h : JG w jb bd n false t d G) (hT : JAt Wd jb bd false lv t) (hC : TapeAt Wd bt 65 [] lvc tt) (hD : DiskF Wd bd n d' F')
    (hlc : ∀ g, lvc.ownBlock = some g → w.heap.size ≤ g) (hlF : ∀ g, lvc.ownBlock = some g → ¬ F' g) (hj : ¬ F jb) (hjw : jb < w.heap.size) (hFF : ∀ k, F' k → F k ∨ w.heap.size ≤ k) (hG : ∀ k, G k ↔ F k ∨ k = jb ∨ lv.ownBlock = some k) (hU : Upd F w Wd)
    (hle : tt.recs.length ≤ tt.size) (hfi : tt.size ≤ n) :
    ∃ G', JG (((Wd.setCell ⟨jb, 0, none⟩ lvc).setCell ⟨jb, 1, none⟩ (.string tt.head)).setCell ⟨jb, 2, none⟩ (.int .i64 (tt.size : Int))) jb bd n false tt d' G' ∧ Moves G G' w (((Wd.setCell ⟨jb, 0, none⟩ lvc).setCell ⟨jb, 1, none⟩ (.string tt.head)).setCell ⟨jb, 2, none⟩ (.int .i64 (tt.size : Int))) := by
  have nj : ¬ F' jb := fun e => (hFF _ e).elim hj (by omega)
  have hne : lvc.ownBlock ≠ some jb := fun e => by have := hlc _ e; omega
  have hjG : G jb := (hG jb).2 (.inr (.inl rfl))
  refine ⟨fun k => F' k ∨ k = jb ∨ lvc.ownBlock = some k, ⟨⟨lvc, F', ⟨?_, ?_, by decide, hC.hd, hC.ln, hC.sz⟩, hD.upd ((((Upd.refl (fun k => k = jb) Wd).setCell ⟨jb, 0, none⟩ _ (.inl rfl)).setCell ⟨jb, 1, none⟩ _ (.inl rfl)).setCell ⟨jb, 2, none⟩ _ (.inl rfl)) (fun k hk e => nj (e ▸ hk)), hlF, nj, fun _ => Iff.rfl⟩, hle, hfi⟩, ?_, fun k hk => ?_⟩
  · rw [setOf_ (setOf_ (setOf_ hT.cells 0 lvc) 1 (.string tt.head)) 2 (.int .i64 (tt.size : Int))]; rfl
  · exact ((hC.row.kept (Lib.grownBy_setCell _ jb 0 _) (.inr hne)).kept (Lib.grownBy_setCell _ jb 1 _) (.inr hne)).kept (Lib.grownBy_setCell _ jb 2 _) (.inr hne)
  · exact (((hU.mono (fun k _ hk => (hG k).2 (.inl hk))).setCell ⟨jb, 0, none⟩ _ (.inl hjG)).setCell ⟨jb, 1, none⟩ _ (.inl hjG)).setCell ⟨jb, 2, none⟩ _ (.inl hjG)
  · rcases hk with hk | rfl | hk
    · exact (hFF k hk).imp (fun e => (hG k).2 (.inl e)) id
    · exact .inl hjG
    · exact .inr (hlc k hk)
end Go.Proofs.YthlmgookaljgnaaGreatDoor
