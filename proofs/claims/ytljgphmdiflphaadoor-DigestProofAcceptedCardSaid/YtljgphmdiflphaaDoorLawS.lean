/- DigestSplit: the walk. -/
import Derived.Test.YtljgphmdiflphaaDoorLawL
import Derived.Test.YtljgphmdiflphaaDoorLawE
namespace Go.Proofs.YtljgphmdiflphaaDoor
open Go.RowKit
set_option linter.unusedVariables false
theorem SL_snoc {w : World} {base n : Nat} {v : Value} {l : List ByteArray} (h : w.ownsRow base 9 1 v n (strV l)) (hl : l.length = n) (h0 : 0 < n) : ∃ g c, v = .slice (some ⟨g, 0, none⟩) n c ∧ n ≤ c ∧ (g < w.heap.size ∧ ∀ j x, l[j]? = some x → w.cell? ⟨g, 0 + j, none⟩ = some (.string x)) := by
  obtain ⟨g, c, e, h1, h2, h3, h4, h5⟩ := own_form h h0
  exact ⟨g, c, e, h3, h2, fun j x hj => by rw [Nat.zero_add]; exact h5 j _ (by rw [strV, List.getElem?_map, hj]; rfl)⟩
theorem SL.takeS {w : World} {b off n c : Nat} {l : List ByteArray} (h : SL w (.slice (some ⟨b, off, none⟩) n c) l) (hn : l.length = n) (h0 : 0 < n) (k : Nat) (hk : k ≤ n) : SL w (.slice (some ⟨b, off, none⟩) k c) (l.take k) := by
  obtain ⟨b', off', c', e, hc, hb, hcs⟩ := h.out (by omega)
  injection e with e1 e2 e3
  injection e1 with e1
  injection e1 with e1 e4
  subst e1 e4 e3
  exact SL.takeK k hn hk (by omega) hb hcs
theorem SL.dropS {w : World} {b off n c : Nat} {l : List ByteArray} (h : SL w (.slice (some ⟨b, off, none⟩) n c) l) (hn : l.length = n) (h0 : 0 < n) (k : Nat) (hk : k ≤ n) : SL w (.slice (some ⟨b, off + k, none⟩) (n - k) (c - k)) (l.drop k) := by
  obtain ⟨b', off', c', e, hc, hb, hcs⟩ := h.out (by omega)
  injection e with e1 e2 e3
  injection e1 with e1
  injection e1 with e1 e4
  subst e1 e4 e3
  exact SL.dropK k hn hk (by omega) hb hcs
theorem rootB_two (l : List ByteArray) (h : 2 ≤ l.length) : rootB l = nodeB (rootB (l.take (Dig.lft l.length))) (rootB (l.drop (Dig.lft l.length))) := by unfold rootB; rw [Dig.root_two _ _ _ l h]

set_option maxRecDepth 100000 in
set_option maxHeartbeats 4000000 in
theorem LawS_any (w : World) (sv : Value) (l : List ByteArray) (s0 : ByteArray) (hsl : SL w sv l) (hlen : l.length ≤ 9223372036854775807) (hs : ∀ s ∈ l, s.size ≤ 9223372036854775807) (hs0 : s0.size ≤ 9223372036854775807) (hR : RoundLaid w) :
    Calls Tryd.prog 8 #[sv, .string s0] w fun e w' => e = .returned (.bool true) ∧ Below w.heap.size w w' := by
  have SA := Lib.hid (sane_any w hR)
  have HR := Lib.hid hR
  have HSL := Lib.hid hsl
  have HS := Lib.hid hs
  obtain ⟨mn, hmn⟩ : ∃ mn, min s0.size 60 = mn := ⟨_, rfl⟩
  have hm : min (s0.size : Int) 60 = (mn : Int) := by omega
  have hm1 : (mn : Int) ≤ (s0.size : Int) := by omega
  have CU : Hid (s0.extract 0 mn = cut60 s0) := Lib.hid (by rw [← hmn]; rfl)
  clear hR hsl hs hmn
  go_enter Tryd.func8, Tryd.ntmps8
  go_wp2_with fail
  refine SA.out.mono ?_
  rintro e W1 ⟨rfl, hb1⟩
  have FE := Lib.hid (few_any W1 sv l (HSL.out.below hb1) hlen HS.out 40 (by decide))
  have B1 := Lib.hid hb1
  clear SA HSL HS hb1
  go_wp2_with fail
  refine FE.out.mono ?_
  rintro e W2 ⟨v, rfl, hown, hb2⟩
  obtain ⟨L, hL⟩ : ∃ L, fewB l 40 = L := ⟨_, rfl⟩
  have hLs := fewB_small l 40
  have hLn : (fewB l 40).length ≤ 40 := by rw [fewB_length]; omega
  rw [hL] at hown hLs hLn
  have B2 := Lib.hid (B1.out.trans (hb2.mono B1.out.size))
  have HR2 := Lib.hid (HR.out.below B2.out)
  obtain ⟨va, vc, rfl, hvc, hsh⟩ := own_shape hown
  clear hsh
  obtain ⟨n, hn⟩ : ∃ n, L.length = n := ⟨_, rfl⟩
  have hn40 : n ≤ 40 := by omega
  have SL2 := Lib.hid (SL_own hown)
  rw [hn] at hown hvc SL2 ⊢
  have OW := Lib.hid hown
  have LS := Lib.hid hLs
  have HN := Lib.hid hn
  clear FE hown hb2 hL hLs hLn B1 HR hn
  have LIT := Lib.hid (own_lit W2 [] W2.heap.size (Nat.le_refl _) (by simp))
  have OWA := Lib.hid (OW.out.alloc (.cells #[] 9))
  go_wp2_with (first
    | (at_builtin; refine wpList_append_strs rfl (.tmp 18) (.tmp 19) rfl W2.heap.size _ 0 [] rfl LIT.out W1.heap.size (.slice va n vc) n L rfl OWA.out (by omega) (by simp) ?_
       intro v3 W3 hown hgr
       have O3 := Lib.hid hown
       have B3 := Lib.hid (((Below.refl W2.heap.size W2).alloc (Nat.le_refl _) _).grown hgr (by simp) (fun j e => (LIT.out.lt j (by first | exact e | simpa using e)).1))
       clear hown hgr
       have z3 := B3.out.size
       have LI3 := Lib.hid (own_lit W3 [s0.extract 0 mn] W2.heap.size z3 (by simp))
       have O3A := Lib.hid (O3.out.alloc (.cells #[.string (s0.extract 0 mn)] 9)))
    | (at_builtin; refine wpList_append_strs rfl (.tmp 20) (.tmp 22) rfl W2.heap.size v3 (0 + n) ([] ++ L) rfl O3A.out W2.heap.size _ 1 [s0.extract 0 mn] rfl LI3.out (by omega) (by simp; omega) ?_
       intro v4 W4 hown hgr
       have B4 := Lib.hid ((B3.out.alloc z3 _).grown hgr (by simp; omega) (fun j e => (O3A.out.lt j (by first | exact e | simpa using e)).1))
       rw [CU.out, List.nil_append, Nat.zero_add] at hown
       obtain ⟨g4, c4, rfl, hc4, hg4⟩ := SL_snoc hown (by rw [List.length_append, HN.out]; rfl) (by omega)
       have G4 := Lib.hid hg4
       clear hown hgr hg4))
  obtain ⟨M, hM⟩ : ∃ M, L ++ [cut60 s0] = M := ⟨_, rfl⟩
  obtain ⟨c0, hc0⟩ : ∃ c0, cut60 s0 = c0 := ⟨_, rfl⟩
  have zc0 : c0.size ≤ 60 := by rw [← hc0]; exact cut60_size s0
  have HM : Hid (L ++ [c0] = M) := Lib.hid (by rw [← hc0]; exact hM)
  have HML : Hid (M.length = n + 1) := Lib.hid (by rw [← HM.out, List.length_append, HN.out]; rfl)
  have HMT : Hid (M.take n = L) := Lib.hid (by rw [← HM.out, ← HN.out]; exact List.take_left' rfl)
  have MS : Hid (∀ s ∈ M, s.size ≤ 800000) := Lib.hid (fun s h => by
    rw [← HM.out] at h
    rcases List.mem_append.1 h with h | h
    · have := LS.out s h; omega
    · obtain rfl := List.mem_singleton.1 h; omega)
  rw [hM] at G4
  have SM := Lib.hid (SL.mk' HML.out hc4 G4.out.1 G4.out.2)
  have BF := Lib.hid (B2.out.trans (B4.out.mono B2.out.size))
  have SLL := Lib.hid (SL2.out.below B4.out)
  have HR4 := Lib.hid (HR2.out.below B4.out)
  rw [hc0] at CU
  have EX := Lib.hid (ExtA W4 _ M SM.out (by have := HML.out; omega) MS.out HR4.out n (by have := HML.out; omega))
  rw [CU.out]
  clear hm hm1 CU hM hc0 OW LIT OWA O3 B3 z3 LI3 O3A B4 SL2 B2 HR2 G4
  refine EX.out.mono ?_
  rintro e W5 ⟨x, rfl, hx, hb5⟩
  obtain ⟨xa, xc, rfl, _, _⟩ := hx.form
  obtain ⟨xn, hxn⟩ : ∃ xn, (exB M n).length = xn := ⟨_, rfl⟩
  have XL : Hid (xn ≤ 1000) := Lib.hid (by
    have h1 := exB_le M n (by have := HML.out; omega)
    have h2 := binN_le M.length
    have := HML.out
    omega)
  rw [hxn] at hx ⊢
  have HXN := Lib.hid hxn
  have SX := Lib.hid hx
  have R5 := Lib.hid (HR4.out.below hb5)
  replace BF := Lib.hid (BF.out.trans (hb5.mono BF.out.size))
  replace SM := Lib.hid (SM.out.below hb5)
  replace SLL := Lib.hid (SLL.out.below hb5)
  have RL := Lib.hid (Root_any W5 _ L SLL.out (by have := HN.out; omega) (fun s h => by have := LS.out s h; omega) R5.out)
  clear EX hx hb5 HR4 hxn
  go_wp2_with fail
  refine RL.out.mono ?_
  rintro e W6 ⟨rfl, hb6⟩
  have R6 := Lib.hid (R5.out.below hb6)
  replace BF := Lib.hid (BF.out.trans (hb6.mono BF.out.size))
  replace SM := Lib.hid (SM.out.below hb6)
  replace SLL := Lib.hid (SLL.out.below hb6)
  replace SX := Lib.hid (SX.out.below hb6)
  have RM := Lib.hid (Root_any W6 _ M SM.out (by have := HML.out; omega) MS.out R6.out)
  clear RL hb6 R5
  go_wp2_with fail
  refine RM.out.mono ?_
  rintro e W7 ⟨rfl, hb7⟩
  have R7 := Lib.hid (R6.out.below hb7)
  replace BF := Lib.hid (BF.out.trans (hb7.mono BF.out.size))
  replace SM := Lib.hid (SM.out.below hb7)
  replace SLL := Lib.hid (SLL.out.below hb7)
  replace SX := Lib.hid (SX.out.below hb7)
  have EO : Hid (verEB (rootB L) (n : Int) (rootB M) ((n : Int) + 1) (exB M n) = true) := Lib.hid (by
    have h := exB_ok M n (by have := HML.out; omega)
    rw [HMT.out, HML.out, show ((n + 1 : Nat) : Int) = (n : Int) + 1 by omega] at h
    exact h)
  have VK := Lib.hid (VE_any W7 (rootB L) (rootB M) n ((n : Int) + 1) _ (exB M n) (by rw [← HXN.out] at SX; exact SX.out) (by have := HXN.out; have := XL.out; omega) (fun s h => by have := exB_32 M n s h; omega) (by rw [rootB_size]; decide) (by rw [rootB_size]; decide) (by omega) R7.out)
  rw [EO.out, HXN.out] at VK
  have RA := Lib.hid (fun W v (h : SL W v L) (r : RoundLaid W) => Root_any W v L h (by have := HN.out; omega) (fun s h => by have := LS.out s h; omega) r)
  have RB := Lib.hid (fun W v (h : SL W v M) (r : RoundLaid W) => Root_any W v M h (by have := HML.out; omega) MS.out r)
  have E0 : Hid (n = 0 → rootB M = leafB c0 ∧ rootB L = sumB ⟨#[]⟩) := Lib.hid (fun h => by
    have hl : L = [] := List.eq_nil_of_length_eq_zero (by rw [HN.out, h])
    refine ⟨?_, by rw [hl]; rfl⟩
    rw [← HM.out, hl]; rfl)
  have E2 : Hid (0 < n → rootB M = nodeB (rootB (M.take (Dig.lft (n + 1)))) (rootB (M.drop (Dig.lft (n + 1))))) := Lib.hid (fun h => by
    have h2 := rootB_two M (by have := HML.out; omega)
    rw [HML.out] at h2
    exact h2)
  have zl := rootB_size L
  have zm := rootB_size M
  clear RM hb7 R6 EO SX HXN XL
  generalize rootB L = rl at *
  generalize rootB M = rm at *
  by_cases h0 : n = 0
  · have hn0 : ((n : Int) == 0) = true := by rw [h0]; rfl
    obtain ⟨e1, e2⟩ := E0.out h0
    have LF := Lib.hid (fun W (r : RoundLaid W) => Leaf_any c0 (by omega) W r)
    have SU := Lib.hid (fun W (r : RoundLaid W) => Sum_any ⟨#[]⟩ (by decide) W r)
    rw [← e1] at LF
    rw [← e2] at SU
    clear e1 e2 h0 E0 E2
    go_wp2_with fail
    refine VK.out.mono ?_
    rintro e W8 ⟨rfl, hb8⟩
    have R8 := Lib.hid (R7.out.below hb8)
    replace BF := Lib.hid (BF.out.trans (hb8.mono BF.out.size))
    replace SM := Lib.hid (SM.out.below hb8)
    replace SLL := Lib.hid (SLL.out.below hb8)
    clear VK hb8 R7
    go_wp2_with fail
    refine (RB.out _ _ SM.out R8.out).mono ?_
    rintro e W9 ⟨rfl, hb9⟩
    have R9 := Lib.hid (R8.out.below hb9)
    replace BF := Lib.hid (BF.out.trans (hb9.mono BF.out.size))
    replace SLL := Lib.hid (SLL.out.below hb9)
    clear hb9 R8
    go_wp2_with fail
    refine (LF.out _ R9.out).mono ?_
    rintro e W10 ⟨rfl, hb10⟩
    have R10 := Lib.hid (R9.out.below hb10)
    replace BF := Lib.hid (BF.out.trans (hb10.mono BF.out.size))
    replace SLL := Lib.hid (SLL.out.below hb10)
    clear hb10 R9
    go_wp2_with fail
    refine (RA.out _ _ SLL.out R10.out).mono ?_
    rintro e W11 ⟨rfl, hb11⟩
    have R11 := Lib.hid (R10.out.below hb11)
    replace BF := Lib.hid (BF.out.trans (hb11.mono BF.out.size))
    clear hb11 R10
    go_wp2_with fail
    refine (SU.out _ R11.out).mono ?_
    rintro e W12 ⟨rfl, hb12⟩
    replace BF := Lib.hid (BF.out.trans (hb12.mono BF.out.size))
    clear hb12 R11
    go_wp2
    go_ret
    exact ⟨rfl, BF.out⟩
  · have hn0 : ((n : Int) == 0) = false := beq_false_of_ne (by omega)
    have e2 := E2.out (by omega)
    obtain ⟨k, hk⟩ : ∃ k, Dig.lft (n + 1) = k := ⟨_, rfl⟩
    have hk1 := Dig.lft_lt (n := n + 1) (by omega)
    have hk0 := Dig.lft_pos (n + 1)
    have LE := Lib.hid (lawLeft_any (n + 1) (by omega) (by omega))
    rw [hk, show ((n + 1 : Nat) : Int) = (n : Int) + 1 by omega] at LE
    rw [hk] at e2 hk1 hk0
    have ST := Lib.hid (SL.takeS SM.out HML.out (by omega) k (by omega))
    have SD := Lib.hid (SL.dropS SM.out HML.out (by omega) k (by omega))
    rw [Nat.zero_add] at SD
    have RT := Lib.hid (fun W (h : SL W (.slice (some ⟨g4, 0, none⟩) k c4) (M.take k)) (r : RoundLaid W) => Root_any W _ (M.take k) h (by rw [List.length_take]; have := HML.out; omega) (fun s h => MS.out s (List.mem_of_mem_take h)) r)
    have RD := Lib.hid (fun W (h : SL W (.slice (some ⟨g4, k, none⟩) (n + 1 - k) (c4 - k)) (M.drop k)) (r : RoundLaid W) => Root_any W _ (M.drop k) h (by rw [List.length_drop]; have := HML.out; omega) (fun s h => MS.out s (List.mem_of_mem_drop h)) r)
    have z1 := rootB_size (M.take k)
    have z2 := rootB_size (M.drop k)
    generalize rootB (M.take k) = r1 at *
    generalize rootB (M.drop k) = r2 at *
    have ND := Lib.hid (fun W (r : RoundLaid W) => Node_any r1 r2 (by omega) W r)
    rw [← e2] at ND
    have b0 : (k : Int) ≤ (n : Int) + 1 := by omega
    have b1 : (n : Int) + 1 ≤ (c4 : Int) := by omega
    have b3 : (k : Int) ≤ (c4 : Int) := by omega
    clear e2 E0 E2 hk h0
    go_wp2_with fail
    refine VK.out.mono ?_
    rintro e W8 ⟨rfl, hb8⟩
    have R8 := Lib.hid (R7.out.below hb8)
    replace BF := Lib.hid (BF.out.trans (hb8.mono BF.out.size))
    replace SM := Lib.hid (SM.out.below hb8)
    replace ST := Lib.hid (ST.out.below hb8)
    replace SD := Lib.hid (SD.out.below hb8)
    clear VK hb8 R7 SLL
    go_wp2_with fail
    refine (LE.out _).mono ?_
    rintro e w' ⟨rfl, rfl⟩
    go_wp2_with fail
    go_region_held3 (fun w' => True) (trivial)
      (first
        | (go_at_call 31
           with_reducible refine Calls.mono (ND.out _ ?_) ?_
           · exact R11.out
           rintro e W12 ⟨rfl, h12⟩
           have B12 := Lib.hid (B11.out.trans (h12.mono B11.out.size))
           clear h12)
        | (go_at_call 20
           with_reducible refine Calls.mono (RD.out _ ?_ ?_) ?_
           · exact D10.out
           · exact R10.out
           rintro e W11 ⟨rfl, h11⟩
           have R11 := Lib.hid (R10.out.below h11)
           have B11 := Lib.hid (B10.out.trans (h11.mono B10.out.size))
           clear h11)
        | (go_at_call 20
           with_reducible refine Calls.mono (RT.out _ ?_ ?_) ?_
           · exact T9.out
           · exact R9.out
           rintro e W10 ⟨rfl, h10⟩
           have R10 := Lib.hid (R9.out.below h10)
           have B10 := Lib.hid (B9.out.trans (h10.mono B9.out.size))
           have D10 := Lib.hid (D9.out.below h10)
           clear h10)
        | (go_at_call 20
           with_reducible refine Calls.mono (RB.out _ _ ?_ ?_) ?_
           · exact ⟨SM.out.form⟩
           · exact R8.out
           rintro e W9 ⟨rfl, h9⟩
           have R9 := Lib.hid (R8.out.below h9.of_drew)
           have B9 := Lib.hid (BF.out.trans (h9.of_drew.mono BF.out.size))
           have T9 := Lib.hid (ST.out.below h9.of_drew)
           have D9 := Lib.hid (SD.out.below h9.of_drew)
           clear h9))
    go_wp2
    go_ret
    exact ⟨rfl, B12.out⟩
end Go.Proofs.YtljgphmdiflphaaDoor
