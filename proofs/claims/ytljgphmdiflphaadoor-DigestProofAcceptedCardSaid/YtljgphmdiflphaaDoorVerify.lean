/- Verify. -/
import Derived.Test.YtljgphmdiflphaaDoorBackS
import Derived.Test.YtljgphmdiflphaaDoorExt
namespace Go.Proofs.YtljgphmdiflphaaDoor
open Go.RowKit Go.Shelf
set_option linter.unusedVariables false
attribute [local go_sem] Oper.semAt_some

def wayB (n i : Nat) (t : List ByteArray) : Option (List (ByteArray × Bool) × List ByteArray) := Dig.way n i t
/-- what a way that was walked to its end answers -/
def endB (root v : ByteArray) : Option (List (ByteArray × Bool) × List ByteArray) → Bool
  | none => false
  | some r => r.2.isEmpty && (Dig.value nodeB v r.1 == root)
def verB (root : ByteArray) (n i : Int) (s : ByteArray) (P : List ByteArray) : Bool :=
  decide (0 ≤ i) && decide (i < n) && allD P && endB root (leafB s) (wayB n.toNat i.toNat P.reverse)

theorem Tryd.infoSide : (Tryd.prog.info? 75).map (fun i => (i.zero, i.size, i.bytes)) = some (some (.agg #[.string ByteArray.empty, .bool false]), 2, 24) := by kernel_rfl

set_option maxHeartbeats 1000000 in
theorem Ver_out (w : World) (root s : ByteArray) (n i : Int) (pv : Value) (h : ¬ (0 ≤ i ∧ i < n)) :
    Calls Tryd.prog 23 #[.string root, .int .i64 n, .int .i64 i, .string s, pv] w fun e w' => e = .returned (.bool false) ∧ w = w' := by
  refine callsIn_wide (n := 9) |>.1 ?_
  refine callsIn_of_wp_marks Tryd.func23 rfl trivial ?_ rfl
  refine wpIn_wide.2 ?_
  simp only [Tryd.ntmps23, List.size_toArray, List.length_cons, List.length_nil, Nat.reduceAdd, Nat.reduceSub, Array.replicate_succ, Array.replicate_zero, List.push_toArray, List.append_toArray, List.nil_append, List.cons_append]
  by_cases h0 : i < 0
  · have h1 : decide (i < 0) = true := by simpa using h0
    clear h
    go_wp2
    exact ⟨_, results_tmp rfl _ _ _, rfl, rfl⟩
  · have h1 : decide (i < 0) = false := by simpa using h0
    have h2 : n ≤ i := by omega
    have h3 : decide (n ≤ i) = true := by simpa using h2
    clear h
    go_wp2
    exact ⟨_, results_tmp rfl _ _ _, rfl, rfl⟩

set_option maxHeartbeats 1000000 in
theorem Ver_odd (w : World) (root s : ByteArray) (n i : Int) (pv : Value) (P : List ByteArray) (hsl : SL w pv P) (hlen : P.length ≤ 1000000) (hs : ∀ s ∈ P, s.size ≤ 9223372036854775807) (h0' : 0 ≤ i) (h1' : i < n) (hd : allD P = false) :
    Calls Tryd.prog 23 #[.string root, .int .i64 n, .int .i64 i, .string s, pv] w fun e w' => e = .returned (.bool false) ∧ w = w' := by
  have AL := Lib.hid (all_any w pv P hsl (by omega) hs)
  rw [hd] at AL
  clear hsl hs hd
  refine callsIn_wide (n := 9) |>.1 ?_
  refine callsIn_of_wp_marks Tryd.func23 rfl trivial ?_ rfl
  refine wpIn_wide.2 ?_
  simp only [Tryd.ntmps23, List.size_toArray, List.length_cons, List.length_nil, Nat.reduceAdd, Nat.reduceSub, Array.replicate_succ, Array.replicate_zero, List.push_toArray, List.append_toArray, List.nil_append, List.cons_append]
  have h0 : ¬ i < 0 := by omega
  have h2 : decide (i < 0) = false := by simpa using h0
  have h3 : ¬ n ≤ i := by omega
  have h4 : decide (n ≤ i) = false := by simpa using h3
  go_wp2_with fail
  refine AL.out.mono ?_
  rintro e w' ⟨rfl, rfl⟩
  go_wp2
  exact ⟨_, results_tmp rfl _ _ _, rfl, rfl⟩

/-- a row of sides, nil or not -/
theorem sides_form {w : World} {base : Nat} {v : Value} {acc : List (ByteArray × Bool)} (h : w.ownsRow base 75 2 v acc.length (sidesV acc)) (hw : 0 < w.heap.size) : ∃ a c g, v = .slice a acc.length c ∧ (0 < acc.length → a = some ⟨g, 0, none⟩ ∧ base ≤ g) ∧ g < w.heap.size ∧ (g = 0 ∨ base ≤ g) ∧ ∀ j u, (sidesV acc)[j]? = some u → w.cell? ⟨g, 0 + j, none⟩ = some u := by
  by_cases h0 : 0 < acc.length
  · obtain ⟨g, cap, e, h1, h2, h3, h4, h5⟩ := own_form h h0
    exact ⟨_, cap, g, e, fun _ => ⟨rfl, h1⟩, h2, .inr h1, fun j u hj => by rw [Nat.zero_add]; exact h5 j u hj⟩
  · have e0 : acc = [] := List.eq_nil_of_length_eq_zero (by omega)
    subst e0
    rcases h.2 with ⟨e, _⟩ | ⟨g, c, cur, e, _⟩
    · exact ⟨none, 0, 0, e, fun h => absurd h (by simp), hw, .inl rfl, by intro j u hj; simp [sidesV] at hj⟩
    · exact ⟨_, c, 0, e, fun h => absurd h (by simp), hw, .inl rfl, by intro j u hj; simp [sidesV] at hj⟩
/-- the sides from the end of a way on -/
def joinF (L : List (ByteArray × Bool)) (pre : List (Fin L.length)) (r : ByteArray) : ByteArray := pre.foldl (fun o x => Dig.join nodeB L[x] o) r
theorem joinF_snoc (L : List (ByteArray × Bool)) (pre : List (Fin L.length)) (x : Fin L.length) (r : ByteArray) : joinF L (pre ++ [x]) r = Dig.join nodeB L[x] (joinF L pre r) := by simp [joinF]
theorem join_size (s : ByteArray × Bool) (o : ByteArray) : (Dig.join nodeB s o).size = 32 := by unfold Dig.join; split <;> exact sumB_size _
theorem joinF_size (L : List (ByteArray × Bool)) (pre : List (Fin L.length)) (r : ByteArray) (hr : r.size = 32) : (joinF L pre r).size = 32 := by
  rcases snoc_cases pre with rfl | ⟨p, x, rfl⟩
  · exact hr
  · rw [joinF_snoc]; exact join_size _ _
theorem map_finRangeS (L : List (ByteArray × Bool)) : (List.finRange L.length).map (fun x => L[x]) = L := by
  apply List.ext_getElem
  · simp
  · intro i h1 h2; simp
theorem joinF_all (L : List (ByteArray × Bool)) (r : ByteArray) : joinF L (List.finRange L.length).reverse r = Dig.value nodeB r L := by
  unfold joinF Dig.value
  rw [List.foldl_reverse]
  have := List.foldr_map (f := fun x : Fin L.length => L[x]) (g := Dig.join nodeB) (l := List.finRange L.length) (init := r)
  rw [map_finRangeS] at this
  exact this.symm

/-- On the way down. -/
def VerS (w : World) (n i : Nat) (P : List ByteArray) (nn ii : Nat) (pv ov : Value) (wr : World) : Prop :=
  ∃ (t : List ByteArray) (acc : List (ByteArray × Bool)), SL w pv t.reverse ∧ wr.ownsRow w.heap.size 75 2 ov acc.length (sidesV acc) ∧ Below w.heap.size w wr ∧
    wayB n i P.reverse = (wayB nn ii t).map (fun r => (acc ++ r.1, r.2)) ∧ ii < nn ∧ nn ≤ n ∧ (∀ x ∈ acc, x.1.size = 32) ∧ (∀ x ∈ t, x.size = 32) ∧ acc.length + t.length = P.length

set_option maxRecDepth 100000 in
set_option maxHeartbeats 4000000 in
theorem Ver_main (w : World) (root s : ByteArray) (n i : Nat) (pv : Value) (P : List ByteArray) (hsl : SL w pv P) (hlen : P.length ≤ 1000000) (hsz : s.size ≤ 800000) (hi : i < n) (hn : n ≤ 9223372036854775807) (hd : allD P = true) (hR : RoundLaid w) (hroot : root.size ≤ 9223372036854775807) :
    Calls Tryd.prog 23 #[.string root, .int .i64 (n : Int), .int .i64 (i : Int), .string s, pv] w fun e w' => e = .returned (.bool (endB root (leafB s) (wayB n i P.reverse))) ∧ Below w.heap.size w w' := by
  obtain ⟨i75, hi75, hz75, hy75, hb75⟩ := info_parts Tryd.infoSide
  have hP32 := (allD_iff P).1 hd
  have AL := Lib.hid (all_any w pv P hsl (by omega) (fun s h => by have := hP32 s h; omega))
  rw [hd] at AL
  have V0 : Hid (VerS w n i P n i pv (.slice none 0 0) w) := Lib.hid ⟨P.reverse, [], by rw [List.reverse_reverse]; exact hsl, World.ownsRow_nil _ _ _ _, Below.refl _ _, by cases wayB n i P.reverse <;> rfl, hi, Nat.le_refl _, (by intro x hx; cases hx), fun x hx => hP32 x (List.mem_reverse.1 hx), by simp⟩
  have HR := Lib.hid hR
  clear hsl hd hP32 hR
  refine callsIn_wide (n := 9) |>.1 ?_
  refine callsIn_of_wp_marks Tryd.func23 rfl trivial ?_ rfl
  refine wpIn_wide.2 ?_
  simp only [Tryd.ntmps23, List.size_toArray, List.length_cons, List.length_nil, Nat.reduceAdd, Nat.reduceSub, Array.replicate_succ, Array.replicate_zero, List.push_toArray, List.append_toArray, List.nil_append, List.cons_append]
  have h0 : ¬ (i : Int) < 0 := by omega
  have h2 : decide ((i : Int) < 0) = false := decide_eq_false h0
  have h3 : ¬ (n : Int) ≤ (i : Int) := by omega
  have h4 : decide (n ≤ i) = false := decide_eq_false (by omega)
  go_wp2_with fail
  refine AL.out.mono ?_
  rintro e w' ⟨rfl, rfl⟩
  go_wp2
  go_loopw [1, 2, 4, 11, 12, 13, 14, 15] (fun nv iv pv ov _ _ _ _ wr => ∃ nn ii : Nat, nv = .int .i64 nn ∧ iv = .int .i64 ii ∧ VerS w n i P nn ii pv ov wr) (fun nv _ _ _ _ _ _ _ _ => (intOf nv).toNat)
  case atStart => exact ⟨n, i, rfl, rfl, V0.out⟩
  case round =>
    clear V0
    obtain ⟨nn, ii, rfl, rfl, hV⟩ := hrel
    obtain ⟨t, acc, hsl, hown, hbel, hway, hii, hnn, ha32, ht32, hln⟩ := hV
    have HOWN := Lib.hid hown
    have HBEL := Lib.hid hbel
    have HWAY := Lib.hid hway
    have HA32 := Lib.hid ha32
    have HT32 := Lib.hid ht32
    have ACL : acc.length ≤ 1000000 := by omega
    have HLN := Lib.hid hln
    clear hown hbel hway ha32 ht32
    by_cases h1' : 1 < nn
    · cases t with
      | nil =>
        obtain ⟨a, c, rfl, _, _⟩ := hsl.form
        have EN : Hid (endB root (leafB s) (wayB n i P.reverse) = false) := Lib.hid (by rw [HWAY.out, wayB, Dig.way_nil _ _ (by omega)]; rfl)
        have TN := Lib.hid (take_none a c wr)
        clear hsl hln HLN
        rw [show ([] : List ByteArray).reverse.length = 0 from rfl]
        go_wp2_with fail
        refine TN.out.mono ?_
        rintro e w' ⟨rfl, rfl⟩
        go_wp2
        exact ⟨_, results_tmp rfl _ _ _, by rw [EN.out]; rfl, HBEL.out⟩
      | cons x t =>
        obtain ⟨b, off, c, rfl, hc, hb, hcs⟩ := hsl.out (by simp)
        obtain ⟨q, hq⟩ : ∃ q, t.length = q := ⟨_, rfl⟩
        have hl1 : (x :: t).reverse.length = q + 1 := by simp [hq]
        rw [hl1] at hc ⊢
        have hcx : wr.cell? ⟨b, off + q, none⟩ = some (.string x) := (HBEL.out.cell (p := ⟨b, off + q, none⟩) hb).trans (hcs q x (by rw [List.reverse_cons, ← hq]; simp))
        have SLT : Hid (SL w (.slice (some ⟨b, off, none⟩) q c) t.reverse) := Lib.hid (SL.mk' (by simp [hq]) (by omega) hb (fun j y hj => hcs j y (by
          rw [List.reverse_cons, List.getElem?_append_left (by have := (List.getElem?_eq_some_iff.1 hj).1; exact this)]; exact hj)))
        have hqb : q ≤ 1000000 := by simp only [List.length_cons] at hln; omega
        have TS := Lib.hid (take_some b off q c x wr (by omega) hc hcx)
        have hx32 := HT32.out x (by simp)
        obtain ⟨k, hk⟩ : ∃ k, Dig.lft nn = k := ⟨_, rfl⟩
        have hk1 := Dig.lft_lt (n := nn) (by omega)
        have hk0 := Dig.lft_pos nn
        rw [hk] at hk1 hk0
        have LE := Lib.hid (left_any nn (by omega) (by omega))
        rw [hk] at LE
        have WC := Lib.hid (Dig.way_cons nn ii x t (by omega))
        rw [hk] at WC
        clear hsl hcs hl1 hq hk hcx hln
        go_wp2_with fail
        refine TS.out.mono ?_
        rintro e w' ⟨rfl, nq, rfl⟩
        have OW : Hid ((wr.drewN nq).ownsRow w.heap.size 75 2 u11 acc.length (sidesV acc)) := HOWN
        have BW : Hid (Below w.heap.size w (wr.drewN nq)) := Lib.hid ⟨HBEL.out.os, HBEL.out.tape, HBEL.out.output, HBEL.out.size, HBEL.out.block⟩
        clear HOWN HBEL TS
        generalize wr.drewN nq = W2 at *
        go_wp2_with fail
        refine (LE.out _).mono ?_
        rintro e w' ⟨rfl, rfl⟩
        have hz2 := BW.out.size
        by_cases hik : ii < k
        · have g0 : ¬ (k : Int) ≤ (ii : Int) := by omega
          have g1 : decide (k ≤ ii) = false := decide_eq_false (by omega)
          go_wp2_with (at_builtin; refine wpList_append_own _ rfl (.tmp 44) (.tmp 50) 71 rfl w.heap.size 75 i75 _ 2 24 Tryd.underlying71 hi75 hz75 hy75 hb75 rfl (by decide) _ _ _ rfl (OW.out.alloc _) ⟨W2.heap.size, 0, none⟩ 1 1 [.string x, .bool false] rfl rfl (World.news_of_block (cs := #[.string x, .bool false]) (t := 75) (fr := (0, 0)) (heap_alloc_new _ _)) (by simp [Value.oneCell']) (by simp only [maxLen]; omega) (by omega) (by simp; omega) ?_; intro v3 W4 hown hgr _; have O4 := Lib.hid hown; have G4 := Lib.hid hgr; clear hown hgr)
          go_roundw
          case rel =>
            have R : VerS w n i P k ii (.slice (some ⟨b, off, none⟩) q c) v3 W4 := ⟨t, acc ++ [(x, false)], SLT.out, by rw [List.length_append]; simpa [sidesV, sideV] using O4.out, (BW.out.alloc BW.out.size _).grown G4.out (by simp; omega) (fun k e => (OW.out.lt k e).1), by
              rw [HWAY.out, wayB, WC.out, if_pos hik, Option.map_map]
              unfold wayB
              congr 1
              funext r
              simp, hik, by omega, (fun y hy => by
                rcases List.mem_append.1 hy with hy | hy
                · exact HA32.out y hy
                · obtain rfl := List.mem_singleton.1 hy; exact hx32), fun y hy => HT32.out y (by simp [hy]), by have := HLN.out; simp at this ⊢; omega⟩
            first | exact ⟨_, _, rfl, rfl, R⟩ | ((repeat apply Exists.intro); exact ⟨⟨_, _, rfl, rfl, R⟩, rfl⟩)
          case measure => simp [intOf]; omega
        · have g0 : (k : Int) ≤ (ii : Int) := by omega
          have g1 : decide (k ≤ ii) = true := decide_eq_true (by omega)
          go_wp2_with (at_builtin; refine wpList_append_own _ rfl (.tmp 44) (.tmp 50) 71 rfl w.heap.size 75 i75 _ 2 24 Tryd.underlying71 hi75 hz75 hy75 hb75 rfl (by decide) _ _ _ rfl (OW.out.alloc _) ⟨W2.heap.size, 0, none⟩ 1 1 [.string x, .bool true] rfl rfl (World.news_of_block (cs := #[.string x, .bool true]) (t := 75) (fr := (0, 0)) (heap_alloc_new _ _)) (by simp [Value.oneCell']) (by simp only [maxLen]; omega) (by omega) (by simp; omega) ?_; intro v3 W4 hown hgr _; have O4 := Lib.hid hown; have G4 := Lib.hid hgr; clear hown hgr)
          go_roundw
          case rel =>
            have R : VerS w n i P (nn - k) (ii - k) (.slice (some ⟨b, off, none⟩) q c) v3 W4 := ⟨t, acc ++ [(x, true)], SLT.out, by rw [List.length_append]; simpa [sidesV, sideV] using O4.out, (BW.out.alloc BW.out.size _).grown G4.out (by simp; omega) (fun k e => (OW.out.lt k e).1), by
              rw [HWAY.out, wayB, WC.out, if_neg hik, Option.map_map]
              unfold wayB
              congr 1
              funext r
              simp, by omega, by omega, (fun y hy => by
                rcases List.mem_append.1 hy with hy | hy
                · exact HA32.out y hy
                · obtain rfl := List.mem_singleton.1 hy; exact hx32), fun y hy => HT32.out y (by simp [hy]), by have := HLN.out; simp at this ⊢; omega⟩
            have e1 : (nn : Int) - (k : Int) = ((nn - k : Nat) : Int) := by omega
            have e2 : (ii : Int) - (k : Int) = ((ii - k : Nat) : Int) := by omega
            rw [e1, e2]
            first | exact ⟨_, _, rfl, rfl, R⟩ | ((repeat apply Exists.intro); exact ⟨⟨_, _, rfl, rfl, R⟩, rfl⟩)
          case measure => simp [intOf]; omega
    · have EE : Hid (wayB n i P.reverse = some (acc, t)) := Lib.hid (by rw [HWAY.out, wayB, Dig.way_one _ _ _ (by omega)]; simp)
      have hw0 : 0 < w.heap.size := ltOf HR.out.choose_spec
      have LF := Lib.hid (Leaf_any s (by omega) wr (HR.out.below HBEL.out))
      obtain ⟨pa, pc, hpv, _, _⟩ := hsl.form
      have hpl : t.reverse.length = t.length := List.length_reverse
      rw [hpl] at hpv
      subst hpv
      have htl : t.length ≤ 1000000 := by omega
      have hq0 : (nn : Int) ≤ 1 := by omega
      clear hsl hpl hln HLN HWAY h1'
      go_wp2_with fail
      refine LF.out.mono ?_
      rintro e W1 ⟨rfl, hB1⟩
      have hown1 := own_below HOWN.out hB1
      have BW1 := Lib.hid (HBEL.out.trans (hB1.mono HBEL.out.size))
      have hz1 := BW1.out.size
      obtain ⟨ga, gc, g, hu, hga, hgl, hg0, hgc⟩ := sides_form hown1 (by omega)
      subst hu
      have HGC := Lib.hid hgc
      have HGA := Lib.hid hga
      clear hB1 HOWN HBEL hown1 hgc hga
      have hlf : (leafB s).size = 32 := sumB_size _
      generalize hLF : leafB s = lf at *
      have HLF := Lib.hid hLF
      clear hLF
      go_wp2_with fail
      refine (BackS_any _ rfl _).mono ?_
      rintro e W4 ⟨rfl, hW4⟩
      have w4 := hW4
      have hBo : W4.heap[W1.heap.size]? = some (.cells #[.string lf] 9 (0, 0)) := by rw [← w4, allocOld (by simp)]; exact allocAt _ rfl
      have hBs : W4.heap[W1.heap.size + 1]? = some (.cells #[.slice ga acc.length gc] 71 (0, 0)) := by rw [← w4]; exact allocAt _ (by simp)
      have hB4 : Below w.heap.size w W4 := by rw [← w4]; exact (BW1.out.alloc BW1.out.size _).alloc (by simp; omega) _
      have hsz : W4.heap.size = W1.heap.size + 2 := by rw [← w4]; simp
      have hcs4 : ∀ j u, (sidesV acc)[j]? = some u → W4.cell? ⟨g, 0 + j, none⟩ = some u := fun j u hj => by
        rw [← w4, World.cell?_alloc_past _ _ _ (by simp; omega), World.cell?_alloc_past _ _ _ hgl]; exact HGC.out j u hj
      have hR4 : RoundLaid W4 := HR.out.below hB4
      have HBo := Lib.hid hBo
      have HBs := Lib.hid hBs
      have HB4 := Lib.hid hB4
      have HSZ := Lib.hid hsz
      have HCS4 := Lib.hid hcs4
      have HR4 := Lib.hid hR4
      clear w4 hW4 hBo hBs hB4 hsz hcs4 hR4 HGC
      go_wp2
      refine (wpIn_wide (n := 9)).1 ?_
      refine rangeH rfl (by omega) (gf := 88) (lb := #[.pointer (some ⟨W1.heap.size + 1, 0, none⟩)]) rfl trivial (enters_of Tryd.func88 (by kernel_rfl) rfl)
        (backS_stops 8 (by omega) (W1.heap.size + 1) g 0 gc acc (by omega) W4 _ _ ga (fun h => (HGA.out h).1) HBs.out (fun _ => by have := HSZ.out; omega) HCS4.out) KeepT.trans (KeepT.putObj (by have := HSZ.out; intro k hk; omega)) (Below.refl _ _) (fun _ => rfl)
        (fun (pre : List (Fin acc.length)) W => W.heap[W1.heap.size]? = some (.cells #[.string (joinF acc pre lf)] 9 (0, 0)) ∧ Upd (· = W1.heap.size) W4 W)
        (fun _ _ _ => False)
        (OwnFrom.and (ownFrom_at W1.heap.size (fun pre => .cells #[.string (joinF acc pre lf)] 9 (0, 0)) (by have := HSZ.out; omega)) (ownFrom_upd (Nat.le_refl _)))
        (fun _ _ _ _ _ hs _ _ => hs)
        ⟨HBo.out, Upd.refl _ _⟩
        (fun x => .cells #[.string acc[x].1, .bool acc[x].2] 75 (0, 0)) (fun _ => rfl)
        (fun x Bx T => ((T.setIfInBounds 66 (.int .i64 (x.1 : Int))).setIfInBounds 67 (sideA acc[x])).setIfInBounds 18 (.pointer (some ⟨Bx, 0, none⟩))) ?assign (fun _ _ h => h.2.size) ?body ?done ?stop
      case assign =>
        intro l pre x W K hsW hI hK
        have HI := Lib.hid hI
        have HK := Lib.hid hK
        clear hI hK
        unfold sideA at HK ⊢
        generalize acc[x] = ax at *
        obtain ⟨a1, a2⟩ := ax
        dsimp only at *
        gi_wp2
        have hk := HK.out W.heap.size (W.alloc (.cells #[.string a1, .bool a2] 75)) hsW
        simp only [List.setIfInBounds_toArray, List.set_cons_zero, List.set_cons_succ] at hk
        have hU : Upd (fun _ => False) W (W.alloc (.cells #[.string a1, .bool a2] 75)) := (Upd.refl _ W).alloc _
        exact hk (keepsFrom_of_upd hU (fun _ h => h.elim)) (KeepT.of_upd hU (fun k hk => ⟨by have := HSZ.out; omega, fun h => h⟩)) ⟨by rw [allocOld (ltOf HI.out.1)]; exact HI.out.1, HI.out.2.alloc _⟩ (allocAt _ rfl)
      case body =>
        rintro l pre x Bx W hbx hobx ⟨hh, hU⟩ hlt
        have HH := Lib.hid hh
        have HU := Lib.hid hU
        have hcc : W.cell? ⟨W1.heap.size, 0, none⟩ = some (.string (joinF acc pre lf)) := by rw [cellOf hh]; rfl
        have hx1 : W.cell? ⟨Bx, 0, none⟩ = some (.string acc[x].1) := by rw [cellOf hobx]; rfl
        have hx2 : W.cell? ⟨Bx, 1, none⟩ = some (.bool acc[x].2) := by rw [cellOf hobx]; rfl
        clear hh hU hobx
        have hbs := joinF_size acc pre lf hlf
        have hx32 := HA32.out acc[x] (List.getElem_mem x.2)
        have JN := Lib.hid (fun W (h : RoundLaid W) => join_any acc[x].1 (joinF acc pre lf) acc[x].2 (by omega) W h)
        have HSN := Lib.hid (joinF_snoc acc pre x lf)
        simp only [List.setIfInBounds_toArray, List.set_cons_zero, List.set_cons_succ]
        unfold sideA
        generalize joinF acc pre lf = o1 at *
        generalize acc[x] = ax at *
        obtain ⟨a1, a2⟩ := ax
        dsimp only at *
        gi_wp2
        refine ⟨trivial, ?_⟩
        refine (CallsIn.inRound l (callsIn_wide.2 (JN.out W (HR4.out.upd HU.out (by omega))))).mono ?_
        rintro e W' ⟨rfl, h2⟩
        have hh2 : W'.heap[W1.heap.size]? = some (.cells #[.string o1] 9 (0, 0)) := by rw [h2.block _ (ltOf HH.out)]; exact HH.out
        have cc2 : W'.cell? ⟨W1.heap.size, 0, none⟩ = some (.string o1) := by rw [cellOf hh2]; rfl
        have ff2 : W'.frozen? ⟨W1.heap.size, 0, none⟩ = false := frozenOf hh2 0
        have H2 := Lib.hid h2
        have HH2 := Lib.hid hh2
        clear h2 hh2
        obtain ⟨o2, ho2⟩ : ∃ o2, (if a2 = true then nodeB a1 o1 else nodeB o1 a1) = o2 := ⟨_, rfl⟩
        rw [ho2]
        have HO2 := Lib.hid ho2
        clear ho2
        gi_wp2
        have hU3 : Upd (· = W1.heap.size) W (W'.setCell ⟨W1.heap.size, 0, none⟩ (.string o2)) := (Upd.of_below H2.out).setCell _ _ (.inl rfl)
        exact ⟨keepsFrom_of_upd hU3 (fun k hk => by have hk' : k = W1.heap.size := hk; have := HSZ.out; omega), KeepT.of_upd hU3 (fun k hk => ⟨by have := HU.out.size; have := HSZ.out; omega, fun e => by have hk' : k = W1.heap.size := e; omega⟩), by rw [setOf_ HH2.out 0 _, HSN.out, ← HO2.out]; rfl, HU.out.trans hU3 (fun _ _ h => h)⟩
      case done =>
        rintro D ys W hD rfl ⟨hh, hU⟩ hK
        have hcc : W.cell? ⟨W1.heap.size, 0, none⟩ = some (.string (Dig.value nodeB lf acc)) := by rw [cellOf hh, joinF_all]; rfl
        have HU := Lib.hid hU
        have HK := Lib.hid hK
        clear hh hU hK
        generalize hval : Dig.value nodeB lf acc = val at *
        have HVAL := Lib.hid hval
        clear hval
        have hW : Below w.heap.size w W := HB4.out.trans (HU.out.below' (by have := HSZ.out; omega) (by intro i hi h; have h' : i = W1.heap.size := h; omega))
        have hF := hW.trans (belowK_b (w := w) (Nat.le_refl _) W D (.deferred (some [])) (.deferred none) (by have := HSZ.out; omega) HK.out rfl rfl)
        have HF := Lib.hid hF
        clear hW hF
        cases t with
        | nil =>
          rw [show ([] : List ByteArray).length = 0 from rfl]
          have EV : Hid (endB root lf (wayB n i P.reverse) = (val == root)) := Lib.hid (by rw [EE.out]; show (true && (Dig.value nodeB lf acc == root)) = _; rw [HVAL.out]; rfl)
          go_wp2
          refine ⟨by simp, .inl ⟨_, _, rfl, run_takeDeferred HK.out, ?_⟩⟩
          exact ⟨_, results_tmp rfl _ _ _, by rw [HLF.out, EV.out, beq_toListBytes]; rfl, HF.out⟩
        | cons y t =>
          have EV : Hid (endB root lf (wayB n i P.reverse) = false) := Lib.hid (by rw [EE.out]; rfl)
          have hb0 : (((y :: t).length : Int) == 0) = false := beq_false_of_ne (by simp; omega)
          generalize (y :: t).length = tl at *
          go_wp2
          refine ⟨by simp, .inl ⟨_, _, rfl, run_takeDeferred HK.out, ?_⟩⟩
          exact ⟨_, results_tmp rfl _ _ _, by rw [HLF.out, EV.out]; rfl, HF.out⟩
      case stop =>
        rintro D c pre W _ _ h _
        exact h.elim

theorem Ver_any (w : World) (root s : ByteArray) (n i : Int) (pv : Value) (P : List ByteArray) (hsl : SL w pv P) (hlen : P.length ≤ 1000000) (hs : ∀ s ∈ P, s.size ≤ 9223372036854775807) (hsz : s.size ≤ 800000) (hn : n ≤ 9223372036854775807) (hR : RoundLaid w) (hroot : root.size ≤ 9223372036854775807) :
    Calls Tryd.prog 23 #[.string root, .int .i64 n, .int .i64 i, .string s, pv] w fun e w' => e = .returned (.bool (verB root n i s P)) ∧ Below w.heap.size w w' := by
  by_cases h : 0 ≤ i ∧ i < n
  · obtain ⟨I, rfl⟩ := Int.eq_ofNat_of_zero_le h.1
    obtain ⟨N, rfl⟩ := Int.eq_ofNat_of_zero_le (show 0 ≤ n by omega)
    cases hd : allD P with
    | true =>
      refine (Ver_main w root s N I pv P hsl hlen hsz (by omega) (by omega) hd hR hroot).mono ?_
      rintro e w' ⟨rfl, hb⟩
      refine ⟨ret_bool ?_, hb⟩
      rw [verB, hd, decide_eq_true h.1, decide_eq_true h.2]
      rfl
    | false =>
      refine (Ver_odd w root s N I pv P hsl hlen hs h.1 h.2 hd).mono ?_
      rintro e w' ⟨rfl, rfl⟩
      exact ⟨ret_bool (by rw [verB, hd]; simp), Below.refl _ _⟩
  · refine (Ver_out w root s n i pv h).mono ?_
    rintro e w' ⟨rfl, rfl⟩
    refine ⟨ret_bool ?_, Below.refl _ _⟩
    rw [verB]
    have : (decide (0 ≤ i) && decide (i < n)) = false := by simpa using h
    rw [this]; rfl
end Go.Proofs.YtljgphmdiflphaaDoor
