/- The disk with its blocks as a set: contracts for the laws. -/
import Derived.Test.YtljgphmdiflphaaDiskM
namespace Go.Proofs.Ytljgphmdiflphaa
open Go.RowKit
set_option linter.unusedVariables false

/-- A disk, and the set of its blocks. -/
def DiskF (w : World) (bd n : Nat) (d : DV) (F : Nat → Prop) : Prop := ∃ bu bv pv, DiskAt w bd bu bv pv n d ∧ ∀ k, F k ↔ Foot bd bu bv pv k
/-- What a call on blocks F leaves, which are F' then. -/
def Moves (F F' : Nat → Prop) (w w' : World) : Prop := Upd F w w' ∧ ∀ k, F' k → F k ∨ w.heap.size ≤ k

theorem DiskF.lt {w : World} {bd n : Nat} {d : DV} {F : Nat → Prop} (h : DiskF w bd n d F) {k : Nat} (hk : F k) : k < w.heap.size := by
  obtain ⟨bu, bv, pv, h1, h2⟩ := h
  exact h1.foot_lt ((h2 k).1 hk)
theorem DiskF.upd {w w' : World} {bd n : Nat} {d : DV} {F S : Nat → Prop} (h : DiskF w bd n d F) (hU : Upd S w w') (hS : ∀ k, F k → ¬ S k) : DiskF w' bd n d F := by
  obtain ⟨bu, bv, pv, h1, h2⟩ := h
  exact ⟨bu, bv, pv, h1.upd hU (fun k hf => hS k ((h2 k).2 hf)), h2⟩
theorem DiskF.size_pos {w : World} {bd n : Nat} {d : DV} {F : Nat → Prop} (h : DiskF w bd n d F) : 1 ≤ n ∧ n ≤ 4194304 ∧ d.vi.length = n ∧ d.du.length = n := by
  obtain ⟨bu, bv, pv, h1, h2⟩ := h
  exact ⟨h1.lo, h1.hi, h1.lv, h1.lu⟩
theorem DiskF.fit {w : World} {bd n : Nat} {d : DV} {F : Nat → Prop} (h : DiskF w bd n d F) : (∀ p ∈ d.pe, p.1 + p.2.size ≤ n) ∧ 0 ≤ d.left := by
  obtain ⟨bu, bv, pv, h1, h2⟩ := h
  exact ⟨h1.fit, h1.l0⟩

theorem Moves.upd {F F' : Nat → Prop} {w w' : World} (h : Moves F F' w w') : Upd F w w' := h.1
theorem Moves.trans {F F' F'' : Nat → Prop} {a b c : World} (h : Moves F F' a b) (k : Moves F' F'' b c) : Moves F F'' a c :=
  ⟨h.1.trans k.1 (fun i hi e => (h.2 i e).resolve_right (by omega)), fun i e => by
    rcases k.2 i e with e | e
    · exact h.2 i e
    · exact .inr (Nat.le_trans h.1.size e)⟩
theorem Moves.refl (F : Nat → Prop) (w : World) : Moves F F w w := ⟨Upd.refl _ _, fun _ h => .inl h⟩
/-- What stands apart stays apart. -/
theorem Moves.apart {F F' G : Nat → Prop} {w w' : World} (h : Moves F F' w w') (hG : ∀ k, G k → ¬ F k) (hl : ∀ k, G k → k < w.heap.size) : ∀ k, G k → ¬ F' k := fun k hk hf => by
  rcases h.2 k hf with e | e
  · exact hG k hk e
  · have := hl k hk; omega
theorem Moves.base {F F' : Nat → Prop} {w w' : World} {N : Nat} (h : Moves F F' w w') (hF : ∀ k, F k → N ≤ k) (hN : N ≤ w.heap.size) : (∀ k, F' k → N ≤ k) ∧ Below N w w' := by
  refine ⟨fun k hk => ?_, h.1.os, h.1.tape, h.1.output, h.1.size, fun k hk => h.1.block k (by omega) (fun e => by have := hF k e; omega)⟩
  rcases h.2 k hk with e | e
  · exact hF k e
  · omega

def writeD (d : DV) (p : Nat) (s : ByteArray) : DV := ⟨usedOff false d.left, usedLeft d.left, d.du, splice d.vi p s.data.toList, d.pe ++ [(p, s)]⟩
def syncD (d : DV) : DV := ⟨d.off, d.left, d.vi, d.vi, []⟩
def newD (n : Nat) : DV := ⟨false, 0, List.replicate n 0, List.replicate n 0, []⟩
def cutD (d : DV) (x : Int) : DV := ⟨x == 0, x, d.du, d.vi, d.pe⟩

theorem newF (w : World) (n : Nat) (h1 : 1 ≤ n) (h2 : (n : Int) ≤ 4194304) :
    Calls Try.prog 13 #[.int .i64 (n : Int)] w fun e w' => ∃ bd,
      e = .returned (.tuple #[.pointer (some ⟨bd, 0, none⟩), .int .i64 0]) ∧ (∃ F, DiskF w' bd n (newD n) F ∧ ∀ k, F k → w.heap.size ≤ k) ∧ Below w.heap.size w w' := by
  refine (New_ok w n h1 h2).mono ?_
  rintro e w' ⟨bd, bu, bv, rfl, h, hB, a, b, c⟩
  refine ⟨bd, rfl, ⟨Foot bd bu bv (.slice none 0 0), ⟨bu, bv, _, h, fun _ => Iff.rfl⟩, ?_⟩, hB⟩
  rintro k (rfl | rfl | rfl | e)
  · exact a
  · exact b
  · exact c
  · cases e

section
variable {w : World} {bd n : Nat} {d : DV} {F : Nat → Prop}

theorem writeF (h : DiskF w bd n d F) (ho : d.off = false) (p : Nat) (s : ByteArray) (hs : p + s.size ≤ n) (hl : d.pe.length ≤ 1000000) :
    Calls Try.prog 21 #[.pointer (some ⟨bd, 0, none⟩), .int .i64 (p : Int), .string s] w fun e w' =>
      e = .returned (.int .i64 0) ∧ ∃ F', DiskF w' bd n (writeD d p s) F' ∧ Moves F F' w w' := by
  obtain ⟨bu, bv, pv, h1, h2⟩ := h
  refine (Write_ok h1 ho p s hs hl).mono ?_
  rintro e w' ⟨rfl, pv', a, b, c⟩
  refine ⟨rfl, Foot bd bu bv pv', ⟨bu, bv, pv', a, fun _ => Iff.rfl⟩, b.mono (fun i _ e => (h2 i).2 e), ?_⟩
  rintro k (rfl | rfl | rfl | e)
  · exact .inl ((h2 _).2 (.inl rfl))
  · exact .inl ((h2 _).2 (.inr (.inl rfl)))
  · exact .inl ((h2 _).2 (.inr (.inr (.inl rfl))))
  · rcases c with c | ⟨g, c1, c2⟩
    · exact .inl ((h2 _).2 (.inr (.inr (.inr (c ▸ e)))))
    · rw [c1] at e; injection e with e; exact .inr (by omega)

theorem writeF_off (h : DiskF w bd n d F) (ho : d.off = true) (x : Int) (s : ByteArray) :
    Calls Try.prog 21 #[.pointer (some ⟨bd, 0, none⟩), .int .i64 x, .string s] w fun e w' => e = .returned (.int .i64 251) ∧ w = w' := by
  obtain ⟨bu, bv, pv, h1, h2⟩ := h
  exact Write_off h1 ho x s
theorem writeF_out (h : DiskF w bd n d F) (ho : d.off = false) (x : Int) (s : ByteArray) (hs : s.size ≤ 9223372036854775807) (hx : -9223372036854775808 ≤ x) (h0 : ¬ (0 ≤ x ∧ x + s.size ≤ n)) :
    Calls Try.prog 21 #[.pointer (some ⟨bd, 0, none⟩), .int .i64 x, .string s] w fun e w' => e = .returned (.int .i64 250) ∧ w = w' := by
  obtain ⟨bu, bv, pv, h1, h2⟩ := h
  exact Write_out h1 ho x s hs hx h0

theorem moves_same {F : Nat → Prop} {bu bv : Nat} {pv pv' : Value} {w w' : World} (h2 : ∀ k, F k ↔ Foot bd bu bv pv k) (b : Upd (Foot bd bu bv pv) w w') (c : pv'.ownBlock = pv.ownBlock) : Moves F (Foot bd bu bv pv') w w' := by
  refine ⟨b.mono (fun i _ e => (h2 i).2 e), ?_⟩
  rintro k (rfl | rfl | rfl | e)
  · exact .inl ((h2 _).2 (.inl rfl))
  · exact .inl ((h2 _).2 (.inr (.inl rfl)))
  · exact .inl ((h2 _).2 (.inr (.inr (.inl rfl))))
  · exact .inl ((h2 _).2 (.inr (.inr (.inr (c ▸ e)))))

theorem syncF (h : DiskF w bd n d F) (ho : d.off = false) :
    Calls Try.prog 23 #[.pointer (some ⟨bd, 0, none⟩)] w fun e w' => e = .returned (.int .i64 0) ∧ ∃ F', DiskF w' bd n (syncD d) F' ∧ Moves F F' w w' := by
  obtain ⟨bu, bv, pv, h1, h2⟩ := h
  refine (Sync_ok h1 ho).mono ?_
  rintro e w' ⟨rfl, pv', a, b, c⟩
  exact ⟨rfl, _, ⟨bu, bv, pv', a, fun _ => Iff.rfl⟩, moves_same h2 b c⟩
theorem syncF_off (h : DiskF w bd n d F) (ho : d.off = true) :
    Calls Try.prog 23 #[.pointer (some ⟨bd, 0, none⟩)] w fun e w' => e = .returned (.int .i64 251) ∧ w = w' := by
  obtain ⟨bu, bv, pv, h1, h2⟩ := h
  exact Sync_off h1 ho

theorem readF (h : DiskF w bd n d F) (ho : d.off = false) (x m : Nat) (hx : x + m ≤ n) :
    Calls Try.prog 14 #[.pointer (some ⟨bd, 0, none⟩), .int .i64 (x : Int), .int .i64 (m : Int)] w fun e w' =>
      e = .returned (.tuple #[.string ⟨((d.vi.drop x).take m).toArray⟩, .int .i64 0]) ∧ w = w' := by
  obtain ⟨bu, bv, pv, h1, h2⟩ := h
  exact Read_ok h1 ho x m hx
/-- reading all -/
theorem readF_all (h : DiskF w bd n d F) (ho : d.off = false) :
    Calls Try.prog 14 #[.pointer (some ⟨bd, 0, none⟩), .int .i64 0, .int .i64 (n : Int)] w fun e w' =>
      e = .returned (.tuple #[.string ⟨d.vi.toArray⟩, .int .i64 0]) ∧ w = w' := by
  have h' := readF h ho 0 n (by omega)
  rw [List.drop_zero, List.take_of_length_le (by rw [h.size_pos.2.2.1]; exact Nat.le_refl _)] at h'
  exact h'
theorem readF_off (h : DiskF w bd n d F) (ho : d.off = true) (x m : Int) :
    Calls Try.prog 14 #[.pointer (some ⟨bd, 0, none⟩), .int .i64 x, .int .i64 m] w fun e w' => e = .returned (.tuple #[.string ⟨#[]⟩, .int .i64 251]) ∧ w = w' := by
  obtain ⟨bu, bv, pv, h1, h2⟩ := h
  exact Read_off h1 ho x m
theorem readF_out (h : DiskF w bd n d F) (ho : d.off = false) (x m : Int) (hx : -9223372036854775808 ≤ x) (hm : -9223372036854775808 ≤ m) (h0 : ¬ (0 ≤ x ∧ 0 ≤ m ∧ x ≤ n ∧ m ≤ n - x)) :
    Calls Try.prog 14 #[.pointer (some ⟨bd, 0, none⟩), .int .i64 x, .int .i64 m] w fun e w' => e = .returned (.tuple #[.string ⟨#[]⟩, .int .i64 250]) ∧ w = w' := by
  obtain ⟨bu, bv, pv, h1, h2⟩ := h
  exact Read_out h1 ho x m hx hm h0

theorem cutF (h : DiskF w bd n d F) (ho : d.off = false) (x : Int) (h0 : 0 ≤ x) (h1 : x ≤ 9223372036854775807) :
    Calls Try.prog 24 #[.pointer (some ⟨bd, 0, none⟩), .int .i64 x] w fun e w' => e = .returned (.int .i64 0) ∧ ∃ F', DiskF w' bd n (cutD d x) F' ∧ Moves F F' w w' := by
  obtain ⟨bu, bv, pv, g1, g2⟩ := h
  refine (Cut_ok g1 ho x h0 h1).mono ?_
  rintro e w' ⟨rfl, a, b⟩
  exact ⟨rfl, F, ⟨bu, bv, pv, a, g2⟩, b.mono (fun i _ e => (g2 i).2 (.inl e)), fun k h => .inl h⟩
theorem cutF_off (h : DiskF w bd n d F) (ho : d.off = true) (x : Int) :
    Calls Try.prog 24 #[.pointer (some ⟨bd, 0, none⟩), .int .i64 x] w fun e w' => e = .returned (.int .i64 251) ∧ w = w' := by
  obtain ⟨bu, bv, pv, h1, h2⟩ := h
  exact Cut_off h1 ho x
theorem cutF_neg (h : DiskF w bd n d F) (ho : d.off = false) (x : Int) (h0 : x < 0) :
    Calls Try.prog 24 #[.pointer (some ⟨bd, 0, none⟩), .int .i64 x] w fun e w' => e = .returned (.int .i64 2) ∧ w = w' := by
  obtain ⟨bu, bv, pv, h1, h2⟩ := h
  exact Cut_neg h1 ho x h0

theorem crashF (h : DiskF w bd n d F) (keep : List Int) (ka : Option Addr) (kl kc : Nat) (hI : IntsAt w.heap.size w (.slice ka kl kc) keep) (hk : keep.length ≤ 100000000) (hm : d.pe.length ≤ 2000000) (torn : Int)
    (ht0 : -9223372036854775808 ≤ torn) (ht1 : torn ≤ 9223372036854775807) :
    Calls Try.prog 25 #[.pointer (some ⟨bd, 0, none⟩), .slice ka kl kc, .int .i64 torn] w fun e w' => e = .returned (.int .i64 0) ∧ ∃ F', DiskF w' bd n (crashed d keep torn) F' ∧ Moves F F' w w' := by
  obtain ⟨bu, bv, pv, h1, h2⟩ := h
  refine (Crash_ok h1 keep ka kl kc hI hk hm torn ht0 ht1).mono ?_
  rintro e w' ⟨rfl, pv', a, b, c⟩
  exact ⟨rfl, _, ⟨bu, bv, pv', a, fun _ => Iff.rfl⟩, moves_same h2 b c⟩

theorem pendingF (h : DiskF w bd n d F) :
    Calls Try.prog 17 #[.pointer (some ⟨bd, 0, none⟩)] w fun e w' => e = .returned (.int .i64 d.pe.length) ∧ w = w' := by
  obtain ⟨bu, bv, pv, h1, h2⟩ := h
  exact Pending_any h1
theorem sizeF (h : DiskF w bd n d F) :
    Calls Try.prog 16 #[.pointer (some ⟨bd, 0, none⟩)] w fun e w' => e = .returned (.int .i64 n) ∧ w = w' := by
  obtain ⟨bu, bv, pv, h1, h2⟩ := h
  exact Size_any h1
end

/-! ### With all blocks from N on -/
def DiskB (N : Nat) (w : World) (bd n : Nat) (d : DV) : Prop := ∃ F, DiskF w bd n d F ∧ (∀ k, F k → N ≤ k) ∧ N ≤ w.heap.size
theorem DiskB.of {N : Nat} {w w' : World} {bd n : Nat} {d' : DV} {F : Nat → Prop} (hF : ∀ k, F k → N ≤ k) (hN : N ≤ w.heap.size) (h : ∃ F', DiskF w' bd n d' F' ∧ Moves F F' w w') : DiskB N w' bd n d' ∧ Below N w w' := by
  obtain ⟨F', a, b⟩ := h
  obtain ⟨c, e⟩ := b.base hF hN
  exact ⟨⟨F', a, c, Nat.le_trans hN b.1.size⟩, e⟩
theorem DiskB.below {N : Nat} {w w' : World} {bd n : Nat} {d : DV} (h : DiskB N w bd n d) (hB : Below w.heap.size w w') : DiskB N w' bd n d := by
  obtain ⟨F, a, b, c⟩ := h
  exact ⟨F, a.upd (Upd.of_below (S := fun _ => False) hB) (fun _ _ f => f), b, Nat.le_trans c hB.size⟩

section
variable {N : Nat} {w : World} {bd n : Nat} {d : DV}
theorem newB (w : World) (n : Nat) (h1 : 1 ≤ n) (h2 : (n : Int) ≤ 4194304) :
    Calls Try.prog 13 #[.int .i64 (n : Int)] w fun e w' => ∃ bd,
      e = .returned (.tuple #[.pointer (some ⟨bd, 0, none⟩), .int .i64 0]) ∧ DiskB w.heap.size w' bd n (newD n) ∧ Below w.heap.size w w' := by
  refine (newF w n h1 h2).mono ?_
  rintro e w' ⟨bd, rfl, ⟨F, a, b⟩, c⟩
  exact ⟨bd, rfl, ⟨F, a, b, c.size⟩, c⟩
theorem writeB (h : DiskB N w bd n d) (ho : d.off = false) (p : Nat) (s : ByteArray) (hs : p + s.size ≤ n) (hl : d.pe.length ≤ 1000000) :
    Calls Try.prog 21 #[.pointer (some ⟨bd, 0, none⟩), .int .i64 (p : Int), .string s] w fun e w' =>
      e = .returned (.int .i64 0) ∧ DiskB N w' bd n (writeD d p s) ∧ Below N w w' := by
  obtain ⟨F, a, b, c⟩ := h
  exact (writeF a ho p s hs hl).mono fun e w' ⟨h1, h2⟩ => ⟨h1, DiskB.of b c h2⟩
theorem syncB (h : DiskB N w bd n d) (ho : d.off = false) :
    Calls Try.prog 23 #[.pointer (some ⟨bd, 0, none⟩)] w fun e w' => e = .returned (.int .i64 0) ∧ DiskB N w' bd n (syncD d) ∧ Below N w w' := by
  obtain ⟨F, a, b, c⟩ := h
  exact (syncF a ho).mono fun e w' ⟨h1, h2⟩ => ⟨h1, DiskB.of b c h2⟩
theorem cutB (h : DiskB N w bd n d) (ho : d.off = false) (x : Int) (h0 : 0 ≤ x) (h1 : x ≤ 9223372036854775807) :
    Calls Try.prog 24 #[.pointer (some ⟨bd, 0, none⟩), .int .i64 x] w fun e w' => e = .returned (.int .i64 0) ∧ DiskB N w' bd n (cutD d x) ∧ Below N w w' := by
  obtain ⟨F, a, b, c⟩ := h
  exact (cutF a ho x h0 h1).mono fun e w' ⟨h1, h2⟩ => ⟨h1, DiskB.of b c h2⟩
theorem crashB (h : DiskB N w bd n d) (keep : List Int) (ka : Option Addr) (kl kc : Nat) (hI : IntsAt w.heap.size w (.slice ka kl kc) keep) (hk : keep.length ≤ 100000000) (hm : d.pe.length ≤ 2000000) (torn : Int)
    (ht0 : -9223372036854775808 ≤ torn) (ht1 : torn ≤ 9223372036854775807) :
    Calls Try.prog 25 #[.pointer (some ⟨bd, 0, none⟩), .slice ka kl kc, .int .i64 torn] w fun e w' => e = .returned (.int .i64 0) ∧ DiskB N w' bd n (crashed d keep torn) ∧ Below N w w' := by
  obtain ⟨F, a, b, c⟩ := h
  exact (crashF a keep ka kl kc hI hk hm torn ht0 ht1).mono fun e w' ⟨h1, h2⟩ => ⟨h1, DiskB.of b c h2⟩
end
end Go.Proofs.Ytljgphmdiflphaa
