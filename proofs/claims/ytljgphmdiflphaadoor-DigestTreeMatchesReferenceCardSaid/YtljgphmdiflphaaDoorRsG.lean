/- The reference's part and Extension; the outcomes of both proofs and both extensions. -/
import Derived.Test.YtljgphmdiflphaaDoorRsF
import Derived.Test.YtljgphmdiflphaaDoorLawE
namespace Go.Proofs.YtljgphmdiflphaaDoor
open Go.RowKit
set_option linter.unusedVariables false

theorem extB_end (l : List ByteArray) (m : Nat) (wh : Bool) (h : l.length ≤ m) : extB l m wh = if wh then [] else [rootB l] := Dig.ext_end leafB nodeB empB l m wh h
theorem extB_step (l : List ByteArray) (m : Nat) (wh : Bool) (h1 : 1 ≤ m) (h : m < l.length) : extB l m wh = if m ≤ Dig.lft l.length then rootB (l.drop (Dig.lft l.length)) :: extB (l.take (Dig.lft l.length)) m wh else rootB (l.take (Dig.lft l.length)) :: extB (l.drop (Dig.lft l.length)) (m - Dig.lft l.length) false := Dig.ext_step leafB nodeB empB l m wh h1 h
set_option maxRecDepth 100000 in
set_option maxHeartbeats 4000000 in
theorem RPart_ok : ∀ (n : Nat) (w : World) (sv : Value) (l : List ByteArray) (m : Nat) (wh : Bool), l.length = n → SL w sv l → n ≤ 10000 → (∀ s ∈ l, s.size ≤ 800000) → 1 ≤ m → m ≤ n →
    Calls Tryd.prog 56 #[sv, .int .i64 (m : Int), .bool wh] w fun e w' => ∃ v, e = .returned v ∧ w'.ownsRow w.heap.size 9 1 v (extB l m wh).length (strV (extB l m wh).reverse) ∧ Below w.heap.size w w' := by
  intro n
  induction n using Nat.strongRecOn with
  | ind n ih =>
    intro w sv l m wh hn hsl hn1 hs hm1 hmn
    obtain ⟨b, off, c, rfl, hc, hb, hcs⟩ := hsl.out (by omega)
    rw [hn] at hc hsl ⊢
    by_cases h1 : m = n
    · have e1 := extB_end l m wh (by omega)
      have hz1 : ((m : Int) == (n : Int)) = true := by rw [h1]; simp
      have RL := Lib.hid (RRoot_any n w _ l hn hsl (by omega) hs)
      rw [e1]
      generalize rootB l = r at *
      clear ih hsl hs h1 hn e1 hcs
      cases wh with
      | true =>
        go_enter Tryd.func56, Tryd.ntmps56
        go_wp2
        go_ret
        exact ⟨_, rfl, World.ownsRow_nil _ _ _ _, Below.refl _ _⟩
      | false =>
        go_enter Tryd.func56, Tryd.ntmps56
        go_wp2_with fail
        refine RL.out.mono ?_
        rintro e W1 ⟨rfl, hb1⟩
        have B1 := Lib.hid hb1
        have LI := Lib.hid (own_lit W1 [r] w.heap.size hb1.size (by simp))
        clear hb1
        go_wp2
        go_ret
        exact ⟨_, rfl, LI.out, B1.out.alloc B1.out.size _⟩
    · have e2 := extB_step l m wh hm1 (by omega)
      obtain ⟨k, hk⟩ : ∃ k, Dig.lft n = k := ⟨_, rfl⟩
      have hk1 := Dig.lft_lt (n := n) (by omega)
      have hk0 := Dig.lft_pos n
      have LE := Lib.hid (RLeft_any n (by omega) (by omega) w)
      rw [hn, hk] at e2
      rw [hk] at hk1 hk0 LE
      have ST := Lib.hid (SL.takeS hsl hn (by omega) k (by omega))
      have SD := Lib.hid (SL.dropS hsl hn (by omega) k (by omega))
      have b0 : (k : Int) ≤ (n : Int) := by omega
      have b1 : (n : Int) ≤ (c : Int) := by omega
      have b3 : (k : Int) ≤ (c : Int) := by omega
      have hz1 : ((m : Int) == (n : Int)) = false := beq_false_of_ne (by omega)
      by_cases hmk : m ≤ k
      · rw [if_pos hmk] at e2
        have RD := Lib.hid (fun W (h : SL W (.slice (some ⟨b, off + k, none⟩) (n - k) (c - k)) (l.drop k)) => RRoot_any (n - k) W _ (l.drop k) (by rw [List.length_drop]; omega) h (by omega) (fun s h => hs s (List.mem_of_mem_drop h)))
        have IH := Lib.hid (fun W (h : SL W (.slice (some ⟨b, off, none⟩) k c) (l.take k)) => ih k hk1 W _ (l.take k) m wh (by rw [List.length_take]; omega) h (by omega) (fun s h => hs s (List.mem_of_mem_take h)) hm1 hmk)
        have pl := extB_length _ (l.take k) m wh hm1 rfl
        have PL : Hid ((extB (l.take k) m wh).length ≤ 20000) := Lib.hid (by rw [List.length_take] at pl; omega)
        generalize rootB (l.drop k) = r at *
        generalize extB (l.take k) m wh = P at *
        have EE := Lib.hid e2
        obtain ⟨q, hq⟩ : ∃ q, P.length = q := ⟨_, rfl⟩
        rw [hq] at PL IH
        have HQ := Lib.hid hq
        have hmki : (m : Int) ≤ (k : Int) := by omega
        clear e2 hk ih hsl hs h1 hn pl hq hcs
        go_enter Tryd.func56, Tryd.ntmps56
        go_wp2_with fail
        refine LE.out.mono ?_
        rintro e w' ⟨rfl, rfl⟩
        go_wp2_with fail
        go_region_held3 (fun w' => True) (trivial)
          (first
            | (go_at_call 21
               with_reducible refine Calls.mono (RD.out _ ?_) ?_
               · exact SD1.out
               rintro e W2 ⟨rfl, hb2⟩
               have O2 := Lib.hid (own_below O1.out hb2)
               have B2 := Lib.hid (B1.out.trans (hb2.mono B1.out.size))
               have hbw := B2.out.size
               have LI := Lib.hid (own_lit W2 [r] w.heap.size hbw (by simp))
               have hm6 : q ≤ 20000 := PL.out
               clear hb2)
            | (go_at_call 56
               with_reducible refine Calls.mono (IH.out _ ?_) ?_
               · exact ⟨ST.out.form⟩
               rintro e W1 ⟨v, rfl, hown, hb1⟩
               have O1 := Lib.hid hown
               have B1 := Lib.hid hb1.of_drew
               have SD1 := Lib.hid (SD.out.below hb1.of_drew)
               clear hown hb1)
            | (refine step_append_sl (by rfl) _ _ (by rfl) w.heap.size v q P.reverse (by rfl) (O2.out.alloc _) _ [r] (by rfl) (SL_own LI.out) (by simp; omega) (by first | omega | (simp; omega)) ?_
               intro v3 W3 hown hgr
               have O3 := Lib.hid hown
               have B3 := Lib.hid ((B2.out.alloc hbw _).grown hgr (by simp; omega) (fun j e => (O2.out.lt j (by first | exact e | simpa using e)).1))
               clear hown hgr)
            | fail)
        go_wp2
        go_ret
        exact ⟨_, rfl, by have := O3.out; rw [EE.out, List.length_cons, List.reverse_cons, HQ.out]; exact this, B3.out⟩
      · rw [if_neg hmk] at e2
        have RD := Lib.hid (fun W (h : SL W (.slice (some ⟨b, off, none⟩) k c) (l.take k)) => RRoot_any k W _ (l.take k) (by rw [List.length_take]; omega) h (by omega) (fun s h => hs s (List.mem_of_mem_take h)))
        have IH := Lib.hid (fun W (h : SL W (.slice (some ⟨b, off + k, none⟩) (n - k) (c - k)) (l.drop k)) => ih (n - k) (by omega) W _ (l.drop k) (m - k) false (by rw [List.length_drop]; omega) h (by omega) (fun s h => hs s (List.mem_of_mem_drop h)) (by omega) (by omega))
        rw [show ((m - k : Nat) : Int) = (m : Int) - (k : Int) by omega] at IH
        have pl := extB_length _ (l.drop k) (m - k) false (by omega) rfl
        have PL : Hid ((extB (l.drop k) (m - k) false).length ≤ 20000) := Lib.hid (by rw [List.length_drop] at pl; omega)
        generalize rootB (l.take k) = r at *
        generalize extB (l.drop k) (m - k) false = P at *
        have EE := Lib.hid e2
        obtain ⟨q, hq⟩ : ∃ q, P.length = q := ⟨_, rfl⟩
        rw [hq] at PL IH
        have HQ := Lib.hid hq
        have hmki : ¬ (m : Int) ≤ (k : Int) := by omega
        have hmkd : decide (m ≤ k) = false := decide_eq_false hmk
        have hck : ¬ c = k := by omega
        have mw : IntKind.i64.wrap ((m : Int) - (k : Int)) = (m : Int) - (k : Int) := IntWalk.i64_in _ (by omega)
        clear e2 hk ih hsl hs h1 hn pl hq hcs
        go_enter Tryd.func56, Tryd.ntmps56
        go_wp2_with fail
        refine LE.out.mono ?_
        rintro e w' ⟨rfl, rfl⟩
        go_wp2_with fail
        go_region_held3 (fun w' => True) (trivial)
          (first
            | (go_at_call 21
               with_reducible refine Calls.mono (RD.out _ ?_) ?_
               · exact ST1.out
               rintro e W2 ⟨rfl, hb2⟩
               have O2 := Lib.hid (own_below O1.out hb2)
               have B2 := Lib.hid (B1.out.trans (hb2.mono B1.out.size))
               have hbw := B2.out.size
               have LI := Lib.hid (own_lit W2 [r] w.heap.size hbw (by simp))
               have hm6 : q ≤ 20000 := PL.out
               clear hb2)
            | (go_at_call 56
               with_reducible refine Calls.mono (IH.out _ ?_) ?_
               · exact ⟨SD.out.form⟩
               rintro e W1 ⟨v, rfl, hown, hb1⟩
               have O1 := Lib.hid hown
               have B1 := Lib.hid hb1.of_drew
               have ST1 := Lib.hid (ST.out.below hb1.of_drew)
               clear hown hb1)
            | (refine step_append_sl (by rfl) _ _ (by rfl) w.heap.size v q P.reverse (by rfl) (O2.out.alloc _) _ [r] (by rfl) (SL_own LI.out) (by simp; omega) (by first | omega | (simp; omega)) ?_
               intro v3 W3 hown hgr
               have O3 := Lib.hid hown
               have B3 := Lib.hid ((B2.out.alloc hbw _).grown hgr (by simp; omega) (fun j e => (O2.out.lt j (by first | exact e | simpa using e)).1))
               clear hown hgr)
            | fail)
        clear mw
        go_wp2
        go_ret
        exact ⟨_, rfl, by have := O3.out; rw [EE.out, List.length_cons, List.reverse_cons, HQ.out]; exact this, B3.out⟩

/-! ### Both proofs, both extensions, whatever the number -/
theorem ownsR {w : World} {base : Nat} {v : Value} {P : List ByteArray} (h : w.ownsRow base 9 1 v P.length (strV P.reverse)) : SL w v P.reverse := SL_own (by rw [List.length_reverse]; exact h)
theorem ProofU (w : World) (sv : Value) (l : List ByteArray) (hsl : SL w sv l) (hlen : l.length ≤ 10000) (hs : ∀ s ∈ l, s.size ≤ 800000) (hR : RoundLaid w) (i : Int) :
    Calls Tryd.prog 15 #[sv, .int .i64 i] w fun e w' => ∃ v, e = .returned (.tuple #[v, .int .i64 (prE l i)]) ∧ SL w' v (prL l i) ∧ Below w.heap.size w w' := by
  by_cases h : 0 ≤ i ∧ i < l.length
  · obtain ⟨I, rfl⟩ := Int.eq_ofNat_of_zero_le h.1
    have hI : I < l.length := by omega
    have e1 : prE l I = 0 := prE_in hI
    have e2 : prL l I = (prfB l I).reverse := prL_in hI
    rw [e1, e2]
    exact Proof_ok w sv l hsl (by omega) hs hR I hI
  · rw [prL_out h, prE_out h]
    refine (Proof_bad w sv l hsl i h).mono ?_
    rintro e w' ⟨rfl, rfl⟩
    exact ⟨_, rfl, SL.nil _, Below.refl _ _⟩
set_option maxHeartbeats 1000000 in
theorem RProof_bad (w : World) (sv : Value) (l : List ByteArray) (hsl : SL w sv l) (hlen : l.length ≤ 10000) (i : Int) (h : ¬ (0 ≤ i ∧ i < l.length)) :
    Calls Tryd.prog 16 #[sv, .int .i64 i] w fun e w' => e = .returned (.tuple #[.slice none 0 0, .int .i64 2]) ∧ w = w' := by
  obtain ⟨a, c, rfl, _, _⟩ := hsl.form
  obtain ⟨n, hn⟩ : ∃ n, l.length = n := ⟨_, rfl⟩
  rw [hn] at h hlen ⊢
  clear hsl hn
  by_cases h0 : i < 0
  · have h1 : decide (i < 0) = true := by simpa using h0
    clear h
    go_enter Tryd.func16, Tryd.ntmps16
    go_wp2
    go_ret2
    exact ⟨rfl, rfl⟩
  · have h1 : decide (i < 0) = false := by simpa using h0
    have h2 : (n : Int) ≤ i := by omega
    have h3 : decide ((n : Int) ≤ i) = true := by simpa using h2
    clear h
    go_enter Tryd.func16, Tryd.ntmps16
    go_wp2
    go_ret2
    exact ⟨rfl, rfl⟩
theorem RProofU (w : World) (sv : Value) (l : List ByteArray) (hsl : SL w sv l) (hlen : l.length ≤ 10000) (hs : ∀ s ∈ l, s.size ≤ 800000) (i : Int) :
    Calls Tryd.prog 16 #[sv, .int .i64 i] w fun e w' => ∃ v, e = .returned (.tuple #[v, .int .i64 (prE l i)]) ∧ SL w' v (prL l i) ∧ Below w.heap.size w w' := by
  by_cases h : 0 ≤ i ∧ i < l.length
  · obtain ⟨I, rfl⟩ := Int.eq_ofNat_of_zero_le h.1
    have hI : I < l.length := by omega
    have e1 : prE l I = 0 := prE_in hI
    have e2 : prL l I = (prfB l I).reverse := prL_in hI
    rw [e1, e2]
    refine (RProof_ok _ w sv l I rfl hsl (by omega) hs hI).mono ?_
    rintro e w' ⟨v, rfl, ho, hb⟩
    exact ⟨v, rfl, ownsR ho, hb⟩
  · rw [prL_out h, prE_out h]
    refine (RProof_bad w sv l hsl hlen i h).mono ?_
    rintro e w' ⟨rfl, rfl⟩
    exact ⟨_, rfl, SL.nil _, Below.refl _ _⟩
/-- the extension as it is handed back, and its error -/
def exL (l : List ByteArray) (m : Int) : List ByteArray := if 0 ≤ m ∧ m ≤ l.length then exB l m.toNat else []
def exE (l : List ByteArray) (m : Int) : Int := if 0 ≤ m ∧ m ≤ l.length then 0 else 2
theorem ExtU (w : World) (sv : Value) (l : List ByteArray) (hsl : SL w sv l) (hlen : l.length ≤ 10000) (hs : ∀ s ∈ l, s.size ≤ 800000) (hR : RoundLaid w) (m : Int) :
    Calls Tryd.prog 17 #[sv, .int .i64 m] w fun e w' => ∃ v, e = .returned (.tuple #[v, .int .i64 (exE l m)]) ∧ SL w' v (exL l m) ∧ Below w.heap.size w w' := by
  by_cases h : 0 ≤ m ∧ m ≤ l.length
  · obtain ⟨M, rfl⟩ := Int.eq_ofNat_of_zero_le h.1
    rw [exL, exE, if_pos h, if_pos h, Int.toNat_natCast]
    exact ExtA w sv l hsl (by omega) hs hR M (by omega)
  · rw [exL, exE, if_neg h, if_neg h]
    refine (Ext_bad w sv l hsl m h).mono ?_
    rintro e w' ⟨rfl, rfl⟩
    exact ⟨_, rfl, SL.nil _, Below.refl _ _⟩
set_option maxHeartbeats 2000000 in
theorem RExtU (w : World) (sv : Value) (l : List ByteArray) (hsl : SL w sv l) (hlen : l.length ≤ 10000) (hs : ∀ s ∈ l, s.size ≤ 800000) (m : Int) :
    Calls Tryd.prog 18 #[sv, .int .i64 m] w fun e w' => ∃ v, e = .returned (.tuple #[v, .int .i64 (exE l m)]) ∧ SL w' v (exL l m) ∧ Below w.heap.size w w' := by
  obtain ⟨n, hn⟩ : ∃ n, l.length = n := ⟨_, rfl⟩
  by_cases h : 0 ≤ m ∧ m ≤ l.length
  · obtain ⟨M, rfl⟩ := Int.eq_ofNat_of_zero_le h.1
    rw [exL, exE, if_pos h, if_pos h, Int.toNat_natCast]
    by_cases h0 : M = 0
    · subst h0
      obtain ⟨a, c, rfl, _, _⟩ := hsl.form
      rw [exB, if_pos rfl]
      rw [show ((0 : Nat) : Int) = 0 from rfl]
      have SN := Lib.hid (SL.nil w)
      rw [hn] at hlen ⊢
      have h1 : ¬ (n : Int) < 0 := by omega
      have h1d : decide ((n : Int) < 0) = false := decide_eq_false h1
      clear hsl hs h hn
      go_enter Tryd.func18, Tryd.ntmps18
      go_wp2
      go_ret2
      exact ⟨_, rfl, SN.out, Below.refl _ _⟩
    · have hM : M ≤ n := by omega
      rw [exB, if_neg h0]
      have PA := Lib.hid (RPart_ok n w sv l M true hn hsl (by omega) hs (by omega) hM)
      obtain ⟨a, c, rfl, _, _⟩ := hsl.form
      rw [hn] at hlen PA ⊢
      have h1 : ¬ (M : Int) < 0 := by omega
      have h1d : decide ((M : Int) < 0) = false := decide_eq_false h1
      have h2 : ¬ (n : Int) < (M : Int) := by omega
      have h2d : decide (n < M) = false := decide_eq_false (by omega)
      have h3 : ((M : Int) == 0) = false := beq_false_of_ne (by omega)
      generalize extB l M true = P at *
      clear hsl hs h hn h0
      go_enter Tryd.func18, Tryd.ntmps18
      go_wp2_with fail
      refine PA.out.mono ?_
      rintro e W1 ⟨v, rfl, ho, hb⟩
      have S1 := Lib.hid (ownsR ho)
      have B1 := Lib.hid hb
      clear ho hb
      go_wp2
      go_ret2
      exact ⟨_, rfl, S1.out, B1.out⟩
  · rw [exL, exE, if_neg h, if_neg h]
    obtain ⟨a, c, rfl, _, _⟩ := hsl.form
    rw [hn] at h hlen ⊢
    have SN := Lib.hid (SL.nil w)
    clear hsl hs hn
    by_cases h0 : m < 0
    · have h1 : decide (m < 0) = true := by simpa using h0
      clear h
      go_enter Tryd.func18, Tryd.ntmps18
      go_wp2
      go_ret2
      exact ⟨_, rfl, SN.out, Below.refl _ _⟩
    · have h1 : decide (m < 0) = false := by simpa using h0
      have h2 : (n : Int) < m := by omega
      have h3 : decide ((n : Int) < m) = true := by simpa using h2
      clear h
      go_enter Tryd.func18, Tryd.ntmps18
      go_wp2
      go_ret2
      exact ⟨_, rfl, SN.out, Below.refl _ _⟩
end Go.Proofs.YtljgphmdiflphaaDoor
