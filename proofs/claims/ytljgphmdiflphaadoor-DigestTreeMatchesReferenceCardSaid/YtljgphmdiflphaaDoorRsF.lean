/- The reference's Root and Proof. -/
import Derived.Test.YtljgphmdiflphaaDoorRsE
import Derived.Test.YtljgphmdiflphaaDoorLawS
import Derived.Test.YtljgphmdiflphaaDoorApp
namespace Go.Proofs.YtljgphmdiflphaaDoor
open Go.RowKit
set_option linter.unusedVariables false

set_option maxRecDepth 100000 in
set_option maxHeartbeats 4000000 in
theorem RRoot_any : ∀ (n : Nat) (w : World) (sv : Value) (l : List ByteArray), l.length = n → SL w sv l → n ≤ 1000000 → (∀ s ∈ l, s.size ≤ 800000) →
    Calls Tryd.prog 21 #[sv] w fun e w' => e = .returned (.string (rootB l)) ∧ Below w.heap.size w w' := by
  intro n
  induction n using Nat.strongRecOn with
  | ind n ih =>
    intro w sv l hn hsl hn1 hs
    by_cases h0 : n = 0
    · have hl : l = [] := List.eq_nil_of_length_eq_zero (by omega)
      subst hl
      obtain ⟨a, c, rfl, _, _⟩ := hsl.form
      have SU := Lib.hid (RSum_any ⟨#[]⟩ (by decide) w)
      rw [show sumB ⟨#[]⟩ = rootB [] from rfl] at SU
      rw [show ([] : List ByteArray).length = 0 from rfl]
      generalize rootB [] = r at *
      clear ih hsl hs h0 hn hn1
      go_enter Tryd.func21, Tryd.ntmps21
      go_wp2_with fail
      refine SU.out.mono ?_
      rintro e W1 ⟨rfl, hb⟩
      have B := Lib.hid hb
      clear hb
      go_wp2
      go_ret
      exact ⟨rfl, B.out⟩
    · by_cases h1 : n = 1
      · obtain ⟨b, off, c, rfl, hc, hb, hcs⟩ := hsl.out (by omega)
        obtain ⟨x, hx⟩ : ∃ x, l = [x] := by
          match l, hn.trans h1 with
          | [x], _ => exact ⟨x, rfl⟩
        subst hx
        have hcx : w.cell? ⟨b, off, none⟩ = some (.string x) := hcs 0 x rfl
        have hx8 := hs x (by simp)
        have LF := Lib.hid (RLeaf_any x (by omega) w)
        rw [show leafB x = rootB [x] from rfl] at LF
        rw [show [x].length = 1 from rfl]
        generalize rootB [x] = r at *
        clear ih hsl hs h0 h1 hn hn1 hcs
        go_enter Tryd.func21, Tryd.ntmps21
        go_wp2_with fail
        refine LF.out.mono ?_
        rintro e W1 ⟨rfl, hb⟩
        have B := Lib.hid hb
        clear hb
        go_wp2
        go_ret
        exact ⟨rfl, B.out⟩
      · obtain ⟨b, off, c, rfl, hc, hb, hcs⟩ := hsl.out (by omega)
        rw [hn] at hc hsl ⊢
        have e2 := rootB_two l (by omega)
        obtain ⟨k, hk⟩ : ∃ k, Dig.lft n = k := ⟨_, rfl⟩
        have hk1 := Dig.lft_lt (n := n) (by omega)
        have hk0 := Dig.lft_pos n
        have LE := Lib.hid (RLeft_any n (by omega) (by omega) w)
        rw [hn, hk] at e2
        rw [hk] at hk1 hk0 LE
        have ST := Lib.hid (SL.takeS hsl hn (by omega) k (by omega))
        have SD := Lib.hid (SL.dropS hsl hn (by omega) k (by omega))
        have RT := Lib.hid (fun W (h : SL W (.slice (some ⟨b, off, none⟩) k c) (l.take k)) => ih k hk1 W _ (l.take k) (by rw [List.length_take]; omega) h (by omega) (fun s h => hs s (List.mem_of_mem_take h)))
        have RD := Lib.hid (fun W (h : SL W (.slice (some ⟨b, off + k, none⟩) (n - k) (c - k)) (l.drop k)) => ih (n - k) (by omega) W _ (l.drop k) (by rw [List.length_drop]; omega) h (by omega) (fun s h => hs s (List.mem_of_mem_drop h)))
        have z1 := rootB_size (l.take k)
        have z2 := rootB_size (l.drop k)
        generalize rootB (l.take k) = r1 at *
        generalize rootB (l.drop k) = r2 at *
        have ND := Lib.hid (fun W => RNode_any r1 r2 (by omega) W)
        rw [← e2] at ND
        generalize rootB l = r at *
        have b0 : (k : Int) ≤ (n : Int) := by omega
        have b1 : (n : Int) ≤ (c : Int) := by omega
        have b3 : (k : Int) ≤ (c : Int) := by omega
        have hz0 : ((n : Int) == 0) = false := beq_false_of_ne (by omega)
        have hz1 : ((n : Int) == 1) = false := beq_false_of_ne (by omega)
        clear e2 hk ih hsl hs h0 h1 hn hcs
        go_enter Tryd.func21, Tryd.ntmps21
        go_wp2_with fail
        refine LE.out.mono ?_
        rintro e w' ⟨rfl, rfl⟩
        go_wp2_with fail
        go_region_held3 (fun w' => True) (trivial)
          (first
            | (go_at_call 34
               with_reducible refine Calls.mono (ND.out _) ?_
               rintro e W3 ⟨rfl, h3⟩
               have B3 := Lib.hid (B2.out.trans (h3.mono B2.out.size))
               clear h3)
            | (go_at_call 21
               with_reducible refine Calls.mono (RD.out _ ?_) ?_
               · exact SD1.out
               rintro e W2 ⟨rfl, h2⟩
               have B2 := Lib.hid (B1.out.trans (h2.mono B1.out.size))
               clear h2)
            | (go_at_call 21
               with_reducible refine Calls.mono (RT.out _ ?_) ?_
               · exact ⟨ST.out.form⟩
               rintro e W1 ⟨rfl, h1⟩
               have SD1 := Lib.hid (SD.out.below h1.of_drew)
               have B1 := Lib.hid h1.of_drew
               clear h1))
        go_wp2
        go_ret
        exact ⟨rfl, B3.out⟩

/-- the proof as it is handed back, and its error -/
def prL (l : List ByteArray) (i : Int) : List ByteArray := if 0 ≤ i ∧ i < l.length then (prfB l i.toNat).reverse else []
def prE (l : List ByteArray) (i : Int) : Int := if 0 ≤ i ∧ i < l.length then 0 else 2
theorem prL_in {l : List ByteArray} {i : Nat} (h : i < l.length) : prL l i = (prfB l i).reverse := by rw [prL, if_pos (by omega)]; rfl
theorem prE_in {l : List ByteArray} {i : Nat} (h : i < l.length) : prE l i = 0 := by rw [prE, if_pos (by omega)]
theorem prL_out {l : List ByteArray} {i : Int} (h : ¬ (0 ≤ i ∧ i < l.length)) : prL l i = [] := by rw [prL, if_neg h]
theorem prE_out {l : List ByteArray} {i : Int} (h : ¬ (0 ≤ i ∧ i < l.length)) : prE l i = 2 := by rw [prE, if_neg h]

set_option maxRecDepth 100000 in
set_option maxHeartbeats 4000000 in
theorem RProof_ok : ∀ (n : Nat) (w : World) (sv : Value) (l : List ByteArray) (i : Nat), l.length = n → SL w sv l → n ≤ 10000 → (∀ s ∈ l, s.size ≤ 800000) → i < n →
    Calls Tryd.prog 16 #[sv, .int .i64 (i : Int)] w fun e w' => ∃ v, e = .returned (.tuple #[v, .int .i64 0]) ∧ w'.ownsRow w.heap.size 9 1 v (prfB l i).length (strV (prfB l i).reverse) ∧ Below w.heap.size w w' := by
  intro n
  induction n using Nat.strongRecOn with
  | ind n ih =>
    intro w sv l i hn hsl hn1 hs hi
    obtain ⟨b, off, c, rfl, hc, hb, hcs⟩ := hsl.out (by omega)
    rw [hn] at hc hsl ⊢
    have hi0 : ¬ (i : Int) < 0 := by omega
    have hi0d : decide ((i : Int) < 0) = false := decide_eq_false hi0
    have hin : ¬ (n : Int) ≤ (i : Int) := by omega
    have hind : decide (n ≤ i) = false := decide_eq_false (by omega)
    by_cases h1 : n = 1
    · have e1 : prfB l i = [] := Dig.prf_one leafB nodeB empB l i (by omega)
      rw [e1]
      have hz1 : ((n : Int) == 1) = true := by rw [h1]; rfl
      clear ih hsl hs h1 hn e1 hcs
      go_enter Tryd.func16, Tryd.ntmps16
      go_wp2
      go_ret2
      exact ⟨_, rfl, World.ownsRow_nil _ _ _ _, Below.refl _ _⟩
    · have e2 : prfB l i = if i < Dig.lft l.length then rootB (l.drop (Dig.lft l.length)) :: prfB (l.take (Dig.lft l.length)) i else rootB (l.take (Dig.lft l.length)) :: prfB (l.drop (Dig.lft l.length)) (i - Dig.lft l.length) := Dig.prf_two leafB nodeB empB l i (by omega)
      obtain ⟨k, hk⟩ : ∃ k, Dig.lft n = k := ⟨_, rfl⟩
      have hk1 := Dig.lft_lt (n := n) (by omega)
      have hk0 := Dig.lft_pos n
      have LE := Lib.hid (RLeft_any n (by omega) (by omega) w)
      rw [hn, hk] at e2
      rw [hk] at hk1 hk0 LE
      have ST := Lib.hid (SL.takeS hsl hn (by omega) k (by omega))
      have SD := Lib.hid (SL.dropS hsl hn (by omega) k (by omega))
      have b0 : (k : Int) ≤ (n : Int) := by omega
      have b1 : (n : Int) ≤ (c : Int) := by omega
      have b3 : (k : Int) ≤ (c : Int) := by omega
      have hz1 : ((n : Int) == 1) = false := beq_false_of_ne (by omega)
      by_cases hik : i < k
      · rw [if_pos hik] at e2
        have RD := Lib.hid (fun W (h : SL W (.slice (some ⟨b, off + k, none⟩) (n - k) (c - k)) (l.drop k)) => RRoot_any (n - k) W _ (l.drop k) (by rw [List.length_drop]; omega) h (by omega) (fun s h => hs s (List.mem_of_mem_drop h)))
        have IH := Lib.hid (ih k hk1 w _ (l.take k) i (by rw [List.length_take]; omega) ST.out (by omega) (fun s h => hs s (List.mem_of_mem_take h)) hik)
        have pl := prfB_length _ (l.take k) i rfl
        have PL : Hid ((prfB (l.take k) i).length ≤ 10000) := Lib.hid (by rw [List.length_take] at pl; omega)
        generalize rootB (l.drop k) = r at *
        generalize prfB (l.take k) i = P at *
        have EE := Lib.hid e2
        obtain ⟨m, hm⟩ : ∃ m, P.length = m := ⟨_, rfl⟩
        rw [hm] at PL IH
        have HM := Lib.hid hm
        have hiki : (i : Int) < (k : Int) := by omega
        clear e2 hk ih hsl hs h1 hn pl hm hcs
        go_enter Tryd.func16, Tryd.ntmps16
        go_wp2_with fail
        refine LE.out.mono ?_
        rintro e w' ⟨rfl, rfl⟩
        go_wp2_with fail
        refine IH.out.mono ?_
        rintro e W1 ⟨v, rfl, hown, hb1⟩
        have O1 := Lib.hid hown
        have B1 := Lib.hid hb1
        have SD1 := Lib.hid (SD.out.below hb1)
        clear hown hb1 IH
        go_wp2_with fail
        refine (RD.out _ SD1.out).mono ?_
        rintro e W2 ⟨rfl, hb2⟩
        have O2 := Lib.hid ((own_below O1.out hb2).alloc (.cells #[.string r] 9))
        have B2 := Lib.hid (B1.out.trans (hb2.mono B1.out.size))
        have hbw := B2.out.size
        have LI := Lib.hid (own_lit W2 [r] w.heap.size hbw (by simp))
        have hm6 : m ≤ 10000 := PL.out
        clear hb2 O1 B1
        go_wp2_with (at_builtin; refine wpList_append_strs rfl (.tmp 36) (.tmp 41) rfl w.heap.size v m P.reverse rfl O2.out w.heap.size _ 1 [r] rfl LI.out (by omega) (by simp; omega) ?_; intro v3 W3 hown hgr; have O3 := Lib.hid hown; have B3 := Lib.hid ((B2.out.alloc hbw _).grown hgr (by simp; omega) (fun j e => (O2.out.lt j (by first | exact e | simpa using e)).1)); clear hown hgr)
        go_ret2
        exact ⟨_, rfl, by have := O3.out; rw [EE.out, List.length_cons, List.reverse_cons, HM.out]; exact this, B3.out⟩
      · rw [if_neg hik] at e2
        have RD := Lib.hid (fun W (h : SL W (.slice (some ⟨b, off, none⟩) k c) (l.take k)) => RRoot_any k W _ (l.take k) (by rw [List.length_take]; omega) h (by omega) (fun s h => hs s (List.mem_of_mem_take h)))
        have IH := Lib.hid (ih (n - k) (by omega) w _ (l.drop k) (i - k) (by rw [List.length_drop]; omega) SD.out (by omega) (fun s h => hs s (List.mem_of_mem_drop h)) (by omega))
        rw [show ((i - k : Nat) : Int) = (i : Int) - (k : Int) by omega] at IH
        have pl := prfB_length _ (l.drop k) (i - k) rfl
        have PL : Hid ((prfB (l.drop k) (i - k)).length ≤ 10000) := Lib.hid (by rw [List.length_drop] at pl; omega)
        generalize rootB (l.take k) = r at *
        generalize prfB (l.drop k) (i - k) = P at *
        have EE := Lib.hid e2
        obtain ⟨m, hm⟩ : ∃ m, P.length = m := ⟨_, rfl⟩
        rw [hm] at PL IH
        have HM := Lib.hid hm
        have hiki : ¬ (i : Int) < (k : Int) := by omega
        have hikd : decide (i < k) = false := decide_eq_false hik
        clear e2 hk ih hsl hs h1 hn pl hm hcs
        go_enter Tryd.func16, Tryd.ntmps16
        go_wp2_with fail
        refine LE.out.mono ?_
        rintro e w' ⟨rfl, rfl⟩
        go_wp2_with fail
        refine IH.out.mono ?_
        rintro e W1 ⟨v, rfl, hown, hb1⟩
        have O1 := Lib.hid hown
        have B1 := Lib.hid hb1
        have SD1 := Lib.hid (ST.out.below hb1)
        clear hown hb1 IH
        go_wp2_with fail
        refine (RD.out _ SD1.out).mono ?_
        rintro e W2 ⟨rfl, hb2⟩
        have O2 := Lib.hid ((own_below O1.out hb2).alloc (.cells #[.string r] 9))
        have B2 := Lib.hid (B1.out.trans (hb2.mono B1.out.size))
        have hbw := B2.out.size
        have LI := Lib.hid (own_lit W2 [r] w.heap.size hbw (by simp))
        have hm6 : m ≤ 10000 := PL.out
        clear hb2 O1 B1
        go_wp2_with (at_builtin; refine wpList_append_strs rfl (.tmp 53) (.tmp 58) rfl w.heap.size v m P.reverse rfl O2.out w.heap.size _ 1 [r] rfl LI.out (by omega) (by simp; omega) ?_; intro v3 W3 hown hgr; have O3 := Lib.hid hown; have B3 := Lib.hid ((B2.out.alloc hbw _).grown hgr (by simp; omega) (fun j e => (O2.out.lt j (by first | exact e | simpa using e)).1)); clear hown hgr)
        go_ret2
        exact ⟨_, rfl, by have := O3.out; rw [EE.out, List.length_cons, List.reverse_cons, HM.out]; exact this, B3.out⟩
end Go.Proofs.YtljgphmdiflphaaDoor
