/- Proof. -/
import Derived.Test.YtljgphmdiflphaaDoorRoot
import Derived.Test.YtljgphmdiflphaaDoorDigB
import Derived.Lib.RowBridge
namespace Go.Proofs.YtljgphmdiflphaaDoor
open Go.RowKit
set_option linter.unusedVariables false

def prfB (l : List ByteArray) (i : Nat) : List ByteArray := Dig.prf leafB nodeB empB l i
theorem prfB_length : ∀ (n : Nat) (l : List ByteArray) (i : Nat), l.length = n → (prfB l i).length ≤ l.length := by
  intro n
  induction n using Nat.strongRecOn with
  | ind n ih =>
    intro l i hn
    unfold prfB
    by_cases h : l.length ≤ 1
    · rw [Dig.prf_one _ _ _ _ _ h]; simp
    · have h3 := Dig.lft_lt (n := l.length) (by omega)
      have h4 := Dig.lft_pos l.length
      rw [Dig.prf_two _ _ _ _ _ (by omega)]
      split
      · have := ih (l.take (Dig.lft l.length)).length (by rw [List.length_take]; omega) (l.take (Dig.lft l.length)) i rfl
        rw [List.length_take] at this
        simp only [List.length_cons]; unfold prfB at this; omega
      · have := ih (l.drop (Dig.lft l.length)).length (by rw [List.length_drop]; omega) (l.drop (Dig.lft l.length)) (i - Dig.lft l.length) rfl
        rw [List.length_drop] at this
        simp only [List.length_cons]; unfold prfB at this; omega

theorem SL.mk' {w : World} {b off n cap : Nat} {l : List ByteArray} (hn : l.length = n) (hc : n ≤ cap) (hb : b < w.heap.size) (hcs : ∀ j x, l[j]? = some x → w.cell? ⟨b, off + j, none⟩ = some (.string x)) : SL w (.slice (some ⟨b, off, none⟩) n cap) l :=
  ⟨_, cap, by rw [hn], by omega, fun _ => ⟨b, off, rfl, hb, hcs⟩⟩
theorem SL.out {w : World} {sv : Value} {l : List ByteArray} (h : SL w sv l) (h0 : 0 < l.length) : ∃ b off cap, sv = .slice (some ⟨b, off, none⟩) l.length cap ∧ l.length ≤ cap ∧ b < w.heap.size ∧ ∀ j x, l[j]? = some x → w.cell? ⟨b, off + j, none⟩ = some (.string x) := by
  obtain ⟨a, cap, e, h1, h2⟩ := h.form
  obtain ⟨b, off, ea, hb, hc⟩ := h2 h0
  subst ea
  exact ⟨b, off, cap, e, h1, hb, hc⟩
theorem SL.takeK {w : World} {b off cap n : Nat} {l : List ByteArray} (k : Nat) (hn : l.length = n) (hk : k ≤ n) (hc : n ≤ cap) (hb : b < w.heap.size) (hcs : ∀ j x, l[j]? = some x → w.cell? ⟨b, off + j, none⟩ = some (.string x)) : SL w (.slice (some ⟨b, off, none⟩) k cap) (l.take k) :=
  SL.mk' (by rw [List.length_take]; omega) (by omega) hb fun j x hj => by
    by_cases h : j < k
    · rw [List.getElem?_take, if_pos h] at hj; exact hcs j x hj
    · rw [List.getElem?_take, if_neg h] at hj; cases hj
theorem SL.dropK {w : World} {b off cap n : Nat} {l : List ByteArray} (k : Nat) (hn : l.length = n) (hk : k ≤ n) (hc : n ≤ cap) (hb : b < w.heap.size) (hcs : ∀ j x, l[j]? = some x → w.cell? ⟨b, off + j, none⟩ = some (.string x)) : SL w (.slice (some ⟨b, off + k, none⟩) (n - k) (cap - k)) (l.drop k) :=
  SL.mk' (by rw [List.length_drop]; omega) (by omega) hb fun j x hj => by
    rw [List.getElem?_drop] at hj
    rw [Nat.add_assoc]; exact hcs (k + j) x hj

theorem upd_setCells {S : Nat → Prop} {a : World} (b : Nat) (hb : S b ∨ a.heap.size ≤ b) : ∀ (vs : List Value) (o : Nat) (w : World), Upd S a w → Upd S a (w.setCells b o vs)
  | [], _, _, h => h
  | v :: r, o, w, h => upd_setCells b hb r (o + 1) _ (h.setCell _ _ hb)
/-- slices.Reverse of a row of the call's own. -/
theorem Rev_any (w : World) (base n : Nat) (v : Value) (acc : List ByteArray) (h : w.ownsRow base 9 1 v n (strV acc)) (hn : n ≤ 10000000) :
    Calls Tryd.prog 54 #[v] w fun e w' => e = .returned (.tuple #[]) ∧ SL w' v acc.reverse ∧ Upd (fun k => v.ownBlock = some k) w w' := by
  have hl : acc.length = n := by have := h.1; simpa [strV] using this
  by_cases h0 : n = 0
  · obtain rfl : acc = [] := List.eq_nil_of_length_eq_zero (by omega)
    obtain ⟨a, c, rfl⟩ : ∃ a c, v = .slice a 0 c := by
      rcases h.2 with ⟨e, _⟩ | ⟨g, c, cur, e, _⟩
      · exact ⟨_, _, e⟩
      · exact ⟨_, _, by rw [e, h0]⟩
    refine (Tryd.slices_Reverse_string_empty a c w).mono ?_
    rintro e w' ⟨rfl, rfl⟩
    exact ⟨rfl, ⟨a, c, rfl, Nat.zero_le _, fun h => absurd h (by simp)⟩, Upd.refl _ _⟩
  · obtain ⟨g, cap, rfl, hb, hg, hc, hm, hcells⟩ := own_form h (by omega)
    have hc2 : ∀ i, i < n → w.cell? ⟨g, 0 + i, none⟩ = some (.string (acc.getD i ByteArray.empty)) := fun i hi => by
      rw [Nat.zero_add]
      refine hcells i _ ?_
      simp only [strV, List.getElem?_map, List.getD_eq_getElem?_getD]
      rw [List.getElem?_eq_getElem (by omega)]; rfl
    have hf : ∀ j, j < n → w.frozen? ⟨g, 0 + j, none⟩ = false := fun j _ => by
      rcases h.2 with ⟨e, _⟩ | ⟨g', c', cur, e, _, hg', _⟩
      · cases e
      · injection e with e
        injection e with e
        injection e with e
        subst e
        exact frozenOf hg' _
    refine (Tryd.slices_Reverse_string_cells g 0 n cap (fun i => acc.getD i ByteArray.empty) w (by omega) hc2 hf).mono ?_
    rintro e w' ⟨rfl, q, rfl⟩
    have hvs : (Lib.strsOf (fun i => acc.getD i ByteArray.empty) n).reverse.map encStr = strV acc.reverse := by
      rw [strV, List.map_reverse, List.map_reverse]
      congr 1
      rw [Lib.strsOf, List.map_map]
      apply List.ext_getElem
      · simp [hl]
      · intro i h1 h2
        simp at h1
        simp [List.getD_eq_getElem?_getD, List.getElem?_eq_getElem (show i < acc.length by omega)]
    rw [hvs]
    refine ⟨rfl, SL.mk' (by rw [List.length_reverse, hl]) hc ?_ ?_, upd_setCells (S := fun k => (Value.slice (some ⟨g, 0, none⟩) n cap).ownBlock = some k) g (.inl rfl) _ _ _ ((Upd.refl _ w).drewN q)⟩
    · exact Nat.lt_of_lt_of_le hg (upd_setCells (S := fun _ => True) g (.inl trivial) _ _ _ ((Upd.refl _ w).drewN q)).size
    · intro j x hj
      have hjl : j < acc.length := by have := (List.getElem?_eq_some_iff.1 hj).1; simpa using this
      rw [World.cell?_setCells_in g (strV acc.reverse) 0 _ (fun j hj => by
        have hj' : j < n := by simp [strV] at hj; omega
        show (w.cell? ⟨g, 0 + j, none⟩).isSome = true
        rw [hc2 j hj']; rfl) j (by simp [strV]; omega)]
      simp only [strV, List.getElem_map]
      have := (List.getElem?_eq_some_iff.1 hj).2
      rw [this]

set_option maxHeartbeats 1000000 in
theorem Proof_bad (w : World) (sv : Value) (l : List ByteArray) (hsl : SL w sv l) (i : Int) (h : ¬ (0 ≤ i ∧ i < l.length)) :
    Calls Tryd.prog 15 #[sv, .int .i64 i] w fun e w' => e = .returned (.tuple #[.slice none 0 0, .int .i64 2]) ∧ w = w' := by
  obtain ⟨a, cap, rfl, hcp, hne⟩ := hsl.form
  clear hne hsl
  by_cases h0 : i < 0
  · have h1 : decide (i < 0) = true := by simpa using h0
    clear h
    go_enter Tryd.func15, Tryd.ntmps15
    go_wp2
    go_step3
    go_wp2
    rw [Exit.noGoto_ret]
    go_ret2
    exact ⟨rfl, rfl⟩
  · have h1 : decide (i < 0) = false := by simpa using h0
    have h2 : (l.length : Int) ≤ i := by omega
    clear h
    go_enter Tryd.func15, Tryd.ntmps15
    go_wp2
    go_step3
    go_wp2
    rw [Exit.noGoto_ret]
    go_ret2
    exact ⟨rfl, rfl⟩

/-- On the way down: what is left of the list, the place in it, and the proof so far. -/
def ProofS (w : World) (l : List ByteArray) (i : Nat) (lv : Value) (j : Int) (ov : Value) (wr : World) : Prop :=
  ∃ (cur : List ByteArray) (q : Nat) (acc : List ByteArray), SL w lv cur ∧ j = (q : Int) ∧ q < cur.length ∧ wr.ownsRow w.heap.size 9 1 ov acc.length (strV acc) ∧ Below w.heap.size w wr ∧ acc ++ prfB cur q = prfB l i ∧ (∀ x ∈ cur, x ∈ l) ∧ cur.length ≤ l.length

set_option maxRecDepth 100000 in
set_option maxHeartbeats 4000000 in
theorem Proof_ok (w : World) (sv : Value) (l : List ByteArray) (hsl : SL w sv l) (hlen : l.length ≤ 1000000) (hs : ∀ s ∈ l, s.size ≤ 800000) (hR : RoundLaid w) (i : Nat) (hi : i < l.length) :
    Calls Tryd.prog 15 #[sv, .int .i64 (i : Int)] w fun e w' => ∃ v, e = .returned (.tuple #[v, .int .i64 0]) ∧ SL w' v (prfB l i).reverse ∧ Below w.heap.size w w' := by
  obtain ⟨i9, hi9, hz9, hy9, hb9⟩ := info_parts Tryd.infoStr
  obtain ⟨b, off, cap, rfl, hcp, hbl, hcs⟩ := hsl.out (by omega)
  obtain ⟨n, hn⟩ : ∃ n, l.length = n := ⟨_, rfl⟩
  have HS := Lib.hid hs
  have HR := Lib.hid hR
  have HSL := Lib.hid hsl
  rw [hn] at hlen hi hcp HSL ⊢
  have HN := Lib.hid hn
  clear hn hsl hs hR hcs
  have h0 : ¬ (i : Int) < 0 := by omega
  have h1 : ¬ (n : Int) ≤ (i : Int) := by omega
  have h0b : decide ((i : Int) < 0) = false := decide_eq_false h0
  have h1b : decide (n ≤ i) = false := decide_eq_false (by omega)
  go_enter Tryd.func15, Tryd.ntmps15
  go_wp2
  go_step3
  go_wp2
  go_step3
  go_wp2
  have P0 : Hid (ProofS w l i (.slice (some ⟨b, off, none⟩) n cap) (i : Int) (.slice none 0 0) w) :=
    Lib.hid ⟨l, i, [], HSL.out, rfl, by rw [HN.out]; exact hi, World.ownsRow_nil _ _ _ _, Below.refl _ _, rfl, fun x h => h, by rw [HN.out]; omega⟩
  go_loopw [0, 1, 6, 7, 8, 9] (fun lv iv ov _ _ _ wr => ∃ j : Int, iv = .int .i64 j ∧ ProofS w l i lv j ov wr) (fun lv _ _ _ _ _ _ => vlen lv)
  case atStart => exact ⟨i, rfl, P0.out⟩
  case round =>
    clear P0
    obtain ⟨j, rfl, hP⟩ := hrel
    obtain ⟨cur, q, acc, hcur, rfl, hq, hown, hbel, hacc, hsub, hln⟩ := hP
    obtain ⟨b2, off2, cap2, rfl, hcp2, hbl2, hcs2⟩ := hcur.out (by omega)
    obtain ⟨m, hm⟩ : ∃ m, cur.length = m := ⟨_, rfl⟩
    rw [hm] at hcp2 hq ⊢
    have hmb : m ≤ 1000000 := by rw [← hm]; rw [HN.out] at hln; omega
    have HM := Lib.hid hm
    have HOWN := Lib.hid hown
    have HBEL := Lib.hid hbel
    have HACC := Lib.hid hacc
    have HSUB := Lib.hid hsub
    have HCS2 := Lib.hid hcs2
    have HLN := Lib.hid hln
    clear hm hcur hown hbel hacc hsub hcs2 hln
    by_cases h1' : m = 1
    · subst h1'
      have EQ := Lib.hid (Dig.prf_one leafB nodeB empB cur q (by have := HM.out; omega))
      have EA : Hid (acc = prfB l i) := Lib.hid (by have h := HACC.out; rw [prfB, EQ.out, List.append_nil] at h; exact h)
      have ACL : acc.length ≤ 1000000 := by rw [EA.out]; have h2 := prfB_length _ l i rfl; have := HN.out; omega
      have RV := Lib.hid (Rev_any wr w.heap.size acc.length u6 acc HOWN.out (by omega))
      go_wp2_with fail
      refine RV.out.mono ?_
      rintro e W3 ⟨rfl, hsl, hu⟩
      have H3 := Lib.hid hsl
      have B3 := Lib.hid (HBEL.out.trans (hu.below' HBEL.out.size (by intro i hi h; have := (HOWN.out.lt _ h).1; omega)))
      clear hsl hu
      go_wp2
      rw [Exit.noGoto_ret]
      go_ret2
      exact ⟨u6, rfl, by rw [← EA.out]; exact H3.out, B3.out⟩
    · have hne : ((m : Int) == 1) = false := beq_false_of_ne (by omega)
      obtain ⟨k, hk⟩ : ∃ k, Dig.lft m = k := ⟨_, rfl⟩
      have hk1 := Dig.lft_lt (n := m) (by omega)
      have hk0 := Dig.lft_pos m
      rw [hk] at hk1 hk0
      have LE := Lib.hid (left_any m (by omega) (by omega))
      rw [hk] at LE
      have HK := Lib.hid hk
      clear hk h1'
      have b0 : (k : Int) ≤ (m : Int) := by omega
      have b1 : (m : Int) ≤ (cap2 : Int) := by omega
      have b3 : (k : Int) ≤ (cap2 : Int) := by omega
      go_wp2_with fail
      refine (LE.out _).mono ?_
      rintro e w' ⟨rfl, rfl⟩
      go_wp2
      go_quiet (fail)
      have BW : Hid (Below w.heap.size w (wr.drewN nq)) := Lib.hid ⟨HBEL.out.os, HBEL.out.tape, HBEL.out.output, HBEL.out.size, HBEL.out.block⟩
      have OW : Hid ((wr.drewN nq).ownsRow w.heap.size 9 1 u6 acc.length (strV acc)) := HOWN
      clear HBEL HOWN
      generalize wr.drewN nq = W2 at *
      have EQ := Lib.hid (Dig.prf_two leafB nodeB empB cur q (by have := HM.out; omega))
      have ACL : Hid (acc.length ≤ 2000000) := Lib.hid (by
        have h1 := congrArg List.length HACC.out
        rw [List.length_append] at h1
        have h2 := prfB_length _ l i rfl
        have := HN.out; omega)
      by_cases hqk : q < k
      · have HRT := Lib.hid (Root_any W2 (.slice (some ⟨b2, off2 + k, none⟩) (m - k) (cap2 - k)) (cur.drop k) ((SL.dropK k HM.out (by omega) hcp2 hbl2 HCS2.out).below BW.out) (by rw [List.length_drop]; have := HM.out; omega) (fun x hx => HS.out x (HSUB.out x (List.mem_of_mem_drop hx))) (HR.out.below BW.out))
        have hqk' : ¬ (k : Int) ≤ (q : Int) := by omega
        go_wp2_with fail
        refine HRT.out.mono ?_
        rintro e W3 ⟨rfl, hB3⟩
        have OW3 := Lib.hid (own_below OW.out hB3)
        have BW3 := Lib.hid (BW.out.trans (hB3.mono BW.out.size))
        clear hB3 OW BW
        have hz3 := BW3.out.size
        go_wp2_with (at_builtin; refine wpList_append_own _ rfl (.tmp 38) (.tmp 41) 22 rfl w.heap.size 9 i9 _ 1 16 Tryd.underlying22 hi9 hz9 hy9 hb9 rfl (by decide) _ _ _ rfl (OW3.out.alloc _) ⟨W3.heap.size, 0, none⟩ 1 1 [.string (rootB (cur.drop k))] rfl rfl (cell_one_new _ _ _) (by simp [Value.oneCell']) (by have := ACL.out; simp only [maxLen]; omega) (by have := ACL.out; omega) (by simp; omega) ?_; intro v3 W4 hown hgr _; have O4 := Lib.hid hown; have G4 := Lib.hid hgr; clear hown hgr)
        go_roundw
        case rel =>
          have R : ProofS w l i (.slice (some ⟨b2, off2, none⟩) k cap2) (q : Int) v3 W4 := ⟨cur.take k, q, acc ++ [rootB (cur.drop k)], SL.takeK k HM.out (by omega) hcp2 hbl2 HCS2.out, rfl, by rw [List.length_take, HM.out]; omega, by rw [List.length_append]; simpa [strV] using O4.out, (BW3.out.alloc BW3.out.size _).grown G4.out (by simp; omega) (fun k e => (OW3.out.lt k e).1), by
          have h := EQ.out
          rw [HM.out, HK.out, if_pos hqk] at h
          rw [← HACC.out, List.append_assoc]; congr 1; exact h.symm, fun x hx => HSUB.out x (List.mem_of_mem_take hx), by have := HLN.out; rw [List.length_take]; omega⟩
          first | exact ⟨_, rfl, R⟩ | ((repeat apply Exists.intro); exact ⟨⟨_, rfl, R⟩, rfl⟩)
        case measure => simp [vlen]; omega
      · have HRT := Lib.hid (Root_any W2 (.slice (some ⟨b2, off2, none⟩) k cap2) (cur.take k) ((SL.takeK k HM.out (by omega) hcp2 hbl2 HCS2.out).below BW.out) (by rw [List.length_take]; have := HM.out; omega) (fun x hx => HS.out x (HSUB.out x (List.mem_of_mem_take hx))) (HR.out.below BW.out))
        have hqk' : (k : Int) ≤ (q : Int) := by omega
        go_wp2_with fail
        refine HRT.out.mono ?_
        rintro e W3 ⟨rfl, hB3⟩
        have OW3 := Lib.hid (own_below OW.out hB3)
        have BW3 := Lib.hid (BW.out.trans (hB3.mono BW.out.size))
        clear hB3 OW BW
        have hz3 := BW3.out.size
        go_wp2_with (at_builtin; refine wpList_append_own _ rfl (.tmp 38) (.tmp 41) 22 rfl w.heap.size 9 i9 _ 1 16 Tryd.underlying22 hi9 hz9 hy9 hb9 rfl (by decide) _ _ _ rfl (OW3.out.alloc _) ⟨W3.heap.size, 0, none⟩ 1 1 [.string (rootB (cur.take k))] rfl rfl (cell_one_new _ _ _) (by simp [Value.oneCell']) (by have := ACL.out; simp only [maxLen]; omega) (by have := ACL.out; omega) (by simp; omega) ?_; intro v3 W4 hown hgr _; have O4 := Lib.hid hown; have G4 := Lib.hid hgr; clear hown hgr)
        go_roundw
        case rel =>
          have R : ProofS w l i (.slice (some ⟨b2, off2 + k, none⟩) (m - k) (cap2 - k)) ((q : Int) - (k : Int)) v3 W4 := ⟨cur.drop k, q - k, acc ++ [rootB (cur.take k)], SL.dropK k HM.out (by omega) hcp2 hbl2 HCS2.out, by omega, by rw [List.length_drop, HM.out]; omega, by rw [List.length_append]; simpa [strV] using O4.out, (BW3.out.alloc BW3.out.size _).grown G4.out (by simp; omega) (fun k e => (OW3.out.lt k e).1), by
          have h := EQ.out
          rw [HM.out, HK.out, if_neg hqk] at h
          rw [← HACC.out, List.append_assoc]; congr 1; exact h.symm, fun x hx => HSUB.out x (List.mem_of_mem_drop hx), by have := HLN.out; rw [List.length_drop]; omega⟩
          first | exact ⟨_, rfl, R⟩ | ((repeat apply Exists.intro); exact ⟨⟨_, rfl, R⟩, rfl⟩)
        case measure => simp [vlen]; omega
end Go.Proofs.YtljgphmdiflphaaDoor
