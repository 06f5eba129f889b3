/- law26: the world of a journal and its reference: begin. -/
import Derived.Test.YthlmgookaljgnaaGreatDoorWOpen
namespace Go.Proofs.YthlmgookaljgnaaGreatDoor
open Go.RowKit Go.Shelf
set_option linter.unusedVariables false
set_option linter.unusedSimpArgs false

theorem WOpen_new {w : World} {wb bd bx n : Nat} {pj pk : Value} {F G : Nat → Prop} (h : W0 w wb bd bx n pj pk (newD n) F G) (hn : n ≤ 800000) (hR : RoundLaid w) (a : Addr) (hD : DamLaid a w) :
    Calls Tryz.prog 14 #[.pointer (some ⟨wb, 0, none⟩)] w fun e w' => e = .returned (.bool true) ∧ ∃ F' G', WSt w' wb bd bx n (some (false, tv0)) (newD n) F' G' ∧ WMoves wb F G F' G' w w' := by
  have e0 : openJ n (newD n) = (0, some tv0, newD n) := by
    have h1 := (JInv.new n).load
    rw [openJ, if_neg (by show ¬ false = true; decide), h1]
    have h2 : (growAll tv0 ([] : List ByteArray)) = tv0 := rfl
    rw [h2]
    simp only
    rw [if_pos]
    show (List.replicate n (0 : UInt8)).drop 0 = List.replicate (n - 0) 0
    simp
  have := WOpen_any h hn hR a hD (by show ([] : List (Nat × ByteArray)).length ≤ 100000; simp)
  rw [e0] at this
  exact this

theorem W0.new {w w1 w2 : World} {bd bx gs n : Nat} {F : Nat → Prop} (hk : DiskF w1 bd n (newD n) F) (hF : ∀ k, F k → w.heap.size ≤ k) (hB1 : Below w.heap.size w w1) (hr : RefAt w2 bx gs n (.slice none 0 0) n (newD n)) (hB2 : Below w1.heap.size w1 w2) (hbx : w1.heap.size ≤ bx) (hgs : w1.heap.size ≤ gs) :
    W0 (w2.alloc (.cells #[.pointer (some ⟨bd, 0, none⟩), .pointer none, .pointer (some ⟨bx, 0, none⟩), .pointer none] 32)) w2.heap.size bd bx n (.pointer none) (.pointer none) (newD n) F (FootR bx gs (.slice none 0 0)) ∧
      Below w.heap.size w (w2.alloc (.cells #[.pointer (some ⟨bd, 0, none⟩), .pointer none, .pointer (some ⟨bx, 0, none⟩), .pointer none] 32)) ∧ w.heap.size ≤ w2.heap.size ∧ ∀ k, FootR bx gs (.slice none 0 0) k → w.heap.size ≤ k := by
  have s1 := hB1.size
  have s2 := hB2.size
  have hnew : ∀ k, FootR bx gs (.slice none 0 0) k → w1.heap.size ≤ k := fun k hk => by
    rcases hk with e | e | e
    · omega
    · omega
    · cases e
  have hA : Upd (fun _ => False) w2 (w2.alloc (.cells #[.pointer (some ⟨bd, 0, none⟩), .pointer none, .pointer (some ⟨bx, 0, none⟩), .pointer none] 32)) := (Upd.refl _ w2).alloc _
  refine ⟨⟨allocAt _ rfl, (hk.upd (Upd.of_below (S := fun _ => False) hB2) (fun _ _ f => f)).upd hA (fun _ _ f => f), ⟨gs, n, _, hr.upd hA (fun _ _ f => f), fun _ => Iff.rfl⟩, fun k f g => ?_, fun f => ?_, fun g => ?_⟩, (hB1.trans (hB2.mono s1)).alloc (by omega) _, by omega, fun k hk => by have := hnew k hk; omega⟩
  · have := hk.lt f
    have := hnew k g
    omega
  · have := hk.lt f
    omega
  · have := hr.foot_lt g
    omega

set_option maxHeartbeats 2000000 in
theorem WBegin_any (w : World) (x : Int) (hR : RoundLaid w) (a : Addr) (hD : DamLaid a w) (hx0 : -9223372036854775808 ≤ x) (hx1 : x ≤ 9223372036854775807) :
    Calls Tryz.prog 6 #[.int .i64 x] w fun e w' => ∃ wb bd bx F G, e = .returned (.tuple #[.pointer (some ⟨wb, 0, none⟩), .bool true]) ∧ WSt w' wb bd bx (sizeJ x) (some (false, tv0)) (newD (sizeJ x)) F G ∧ Below w.heap.size w w' ∧ w.heap.size ≤ wb ∧ (∀ k, F k → w.heap.size ≤ k) ∧ (∀ k, G k → w.heap.size ≤ k) := by
  have hS := Lib.hid (fun W => sizeJ_any x W hx0 hx1)
  obtain ⟨n1, n2⟩ : 1 ≤ sizeJ x ∧ sizeJ x ≤ 1500 := by
    have h1 := pickJ_lo x 1500 (by decide)
    have h2 := pickJ_hi x 1500 (by decide)
    have h3 := sizeJ_eq x
    omega
  generalize sizeJ x = n at *
  have NW := Lib.hid (fun W => newF W n n1 (by omega))
  have RN := Lib.hid (fun W => RefNew_ok W n n1 (by omega))
  have HR := Lib.hid (And.intro hR hD)
  clear hR hD
  go_enter Tryz.func6, Tryz.ntmps6
  go_wp2_with (first
    | (go_at_call 12; refine (hS.out _).mono ?_; rintro e w' ⟨rfl, rfl⟩)
    | (go_at_call 23; refine (NW.out _).mono ?_; rintro e w1 ⟨bd, rfl, ⟨F, hk, hF⟩, hB⟩; have H1 := Lib.hid (And.intro hk (And.intro hF hB)); clear hk hF hB)
    | (go_at_call 25; refine (RN.out _).mono ?_; rintro e w2 ⟨bx, gs, rfl, hr, hB, hbx, hgs⟩; have H2 := Lib.hid (W0.new H1.out.1 H1.out.2.1 H1.out.2.2 hr hB hbx hgs); clear hr hB hbx hgs)
    | (go_at_call 14; refine (WOpen_new H2.out.1 (by omega) (HR.out.1.below H2.out.2.1) a (HR.out.2.upd (Upd.of_below (S := fun _ => False) H2.out.2.1) (fun h => h))).mono ?_; rintro e w3 ⟨rfl, F3, G3, hW, hM⟩; have H3 := Lib.hid (And.intro hW hM); clear hW hM)
    | fail)
  refine bodyPost_ret (results_tmp2 rfl _ _ _) rfl ?_
  have hs := H2.out.2.1.size
  refine ⟨_, bd, bx, F3, G3, rfl, H3.out.1, ?_, H2.out.2.2.1, fun k hk => (H3.out.2.2.1 k hk).elim (H1.out.2.1 k) (fun e => by omega), fun k hk => (H3.out.2.2.2 k hk).elim (H2.out.2.2.2 k) (fun e => by omega)⟩
  exact ((Upd.of_below (S := fun _ => False) H2.out.2.1).trans (H3.out.2.1.mono (T := fun k => w.heap.size ≤ k) (fun i _ h => h.elim (fun e => by have := H2.out.2.2.1; omega) (fun h => h.elim (H1.out.2.1 i) (H2.out.2.2.2 i)))) (fun i hi e => by omega)).below (fun _ _ f => f)
end Go.Proofs.YthlmgookaljgnaaGreatDoor
