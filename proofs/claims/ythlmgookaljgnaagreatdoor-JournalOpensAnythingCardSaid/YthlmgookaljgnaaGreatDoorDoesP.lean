/- What holds between two calls of the sequence: few writes are pending; a tape is grown by small records, and fits the disk. Plain. -/
import Derived.Test.YthlmgookaljgnaaGreatDoorWX
namespace Go.Proofs.YthlmgookaljgnaaGreatDoor
open Go.RowKit Go.Shelf
set_option linter.unusedVariables false
set_option linter.unusedSimpArgs false

def WInv (n k : Nat) (o : Option (Bool × TV)) (d : DV) : Prop := d.pe.length ≤ 4 * k ∧ ∀ br t, o = some (br, t) → ∃ l, t = growAll tv0 l ∧ (∀ r ∈ l, r.size ≤ 65536) ∧ t.size ≤ n
theorem WInv.cut {n k : Nat} {o : Option (Bool × TV)} {d : DV} (h : WInv n k o d) (x : Int) : WInv n (k + 1) o (cres d x) := by
  refine ⟨?_, h.2⟩
  have h1 := h.1
  unfold cres cutD
  split
  · omega
  · split
    · omega
    · show d.pe.length ≤ _; omega
theorem openJ_pe (n : Nat) (d : DV) : (openJ n d).2.2.pe.length ≤ d.pe.length + 1 := by
  unfold openJ
  split
  · show d.pe.length ≤ _; omega
  · split
    · show d.pe.length ≤ _; omega
    · split
      · show d.pe.length ≤ _; omega
      · split
        · show (d.pe ++ [_]).length ≤ _; simp
        · show ([] : List (Nat × ByteArray)).length ≤ _; simp
theorem WInv.open {n k : Nat} {d : DV} (hv : d.vi.length = n) (hp : d.pe.length ≤ 4 * k) : WInv n (k + 1) ((openJ n d).2.1.map (Prod.mk false)) (openJ n d).2.2 := by
  refine ⟨by have := openJ_pe n d; omega, fun br t e => ?_⟩
  rcases openJ_cases n d with ⟨cc, d', e0, hcc⟩ | ⟨t', d', e0⟩
  · rw [e0] at e; cases e
  · obtain ⟨_, l, e1, e2, e3⟩ := openJ_some hv e0
    rw [e0] at e
    cases e
    exact ⟨l, e1, e2, e3⟩
theorem WInv.crash {n k : Nat} {d : DV} (keep : List Int) (torn : Int) (hv : (crashed d keep torn).vi.length = n) : WInv n (k + 1) ((openJ n (crashed d keep torn)).2.1.map (Prod.mk false)) (openJ n (crashed d keep torn)).2.2 :=
  WInv.open hv (Nat.zero_le _)
theorem WInv.same {n k : Nat} {o : Option (Bool × TV)} {d : DV} (h : WInv n k o d) : WInv n (k + 1) o d := ⟨by have := h.1; omega, h.2⟩
theorem WInv.append {n k : Nat} {br : Bool} {t : TV} {d : DV} (h : WInv n k (some (br, t)) d) (g : List ByteArray) (hs : ∀ r ∈ g, r.size ≤ 65536) :
    WInv n (k + 1) (some ((appJ n br t d g).2.1, (appJ n br t d g).2.2.1)) (appJ n br t d g).2.2.2 := by
  obtain ⟨h1, h2⟩ := h
  obtain ⟨l, rfl, hl, hz⟩ := h2 _ _ rfl
  have old : ∀ {b : Bool} {d' : DV}, d'.pe.length ≤ d.pe.length + 3 → WInv n (k + 1) (some (b, growAll tv0 l)) d' := fun hd => ⟨by omega, fun br' t' e => by cases e; exact ⟨l, rfl, hl, hz⟩⟩
  unfold appJ
  split
  · exact old (Nat.le_add_right _ _)
  · split
    · exact old (Nat.le_add_right _ _)
    · rename_i hf
      split
      · exact old (Nat.le_add_right _ _)
      · split
        · exact old (Nat.le_add_right _ _)
        · split
          · exact old (by show (d.pe ++ [_]).length ≤ _; simp)
          · split
            · exact old (by show (([] : List (Nat × ByteArray)) ++ [_]).length ≤ _; simp)
            · refine ⟨by show ([] : List (Nat × ByteArray)).length ≤ _; simp, fun br' t' e => ?_⟩
              cases e
              refine ⟨l ++ g, by rw [growAll_append], fun r hr => (List.mem_append.1 hr).elim (hl r) (hs r), ?_⟩
              rw [growAll_size]; omega
theorem WInv.recs {n k : Nat} {br : Bool} {t : TV} {d : DV} (h : WInv n k (some (br, t)) d) : (∀ r ∈ t.recs, r.size ≤ 65536) ∧ t.recs.length * 33 ≤ n ∧ t.size ≤ n := by
  obtain ⟨l, rfl, hl, hz⟩ := h.2 _ _ rfl
  rw [growAll_recs0]
  refine ⟨hl, ?_, hz⟩
  have := needOf_length l
  rw [growAll_len] at hz
  omega
theorem IntsAt.more2 {n₀ n₁ : Nat} {W : World} {sv : Value} {zs : List Int} (h : IntsAt n₀ W sv zs) (hn : n₀ ≤ n₁) : IntsAt n₁ W sv zs := by
  rcases h with e | ⟨b, off, cap, e, hb, hc⟩
  · exact .inl e
  · exact .inr ⟨b, off, cap, e, by omega, hc⟩
theorem sameJ_rfl (w : World) (av bv : Value) (A : List ByteArray) (ha : SL w av A) (hb : SL w bv A) (hl : A.length ≤ 1000000) :
    Calls Tryz.prog 15 #[av, bv] w fun e w' => e = .returned (.bool true) ∧ Below w.heap.size w w' := by
  have := sameJ_any w av bv A A ha hb hl hl
  rwa [show sameJ A A = true from decide_eq_true rfl] at this
end Go.Proofs.YthlmgookaljgnaaGreatDoor
