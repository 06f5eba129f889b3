/- Verify.
  Binding, the plain law: two accepted proofs of different entries for one place hold two strings with one Sum.
  The reference's SHA-256: Sum, Leaf, Node, Chain.
  wire.PutInt of a length, PutString.
  wire.PutInt of a length, PutString.
  wire.Int, wire.String: plain and walk.
  VerifyExtension.
-/
import Derived.Test.YtljgphmdiflphaaDoorMc
import Derived.Test.YtljgphmdiflphaaDoorMd
import Derived.Test.YtljgphmdiflphaaDoorMb
import Derived.Sort.LoopGhostIn
import Derived.Laws.DeepNot64
namespace Go.Proofs.YtljgphmdiflphaaDoor
open Go.RowKit Go.Shelf
set_option linter.unusedVariables false
attribute [local go_sem] Oper.semAt_some

def wayB (n i : Nat) (t : List ByteArray) : Option (List (ByteArray × Bool) × List ByteArray) := Dig.way n i t
/-- what a way that was walked to its end answers -/
def endB (root v : ByteArray) : Option (List (ByteArray × Bool) × List ByteArray) → Bool
  | none => false
  | some r => r.2.isEmpty && (Dig.value nodeB v r.1 == root)
def verB (root : ByteArray) (n i : Int) (s : ByteArray) (P : List ByteArray) : Bool :=
  decide (0 ≤ i) && decide (i < n) && allD P && endB root (leafB s) (wayB n.toNat i.toNat P.reverse)

theorem Tryd.infoSide : (Tryd.prog.info? 75).map (fun i => (i.zero, i.size, i.bytes)) = some (some (.agg #[.string ByteArray.empty, .bool false]), 2, 24) := by kernel_rfl

set_option maxHeartbeats 1000000 in
theorem Ver_out (w : World) (root s : ByteArray) (n i : Int) (pv : Value) (h : ¬ (0 ≤ i ∧ i < n)) :
    Calls Tryd.prog 23 #[.string root, .int .i64 n, .int .i64 i, .string s, pv] w fun e w' => e = .returned (.bool false) ∧ w = w' := by
  refine callsIn_wide (n := 9) |>.1 ?_
  refine callsIn_of_wp_marks Tryd.func23 rfl trivial ?_ rfl
  refine wpIn_wide.2 ?_
  simp only [Tryd.ntmps23, List.size_toArray, List.length_cons, List.length_nil, Nat.reduceAdd, Nat.reduceSub, Array.replicate_succ, Array.replicate_zero, List.push_toArray, List.append_toArray, List.nil_append, List.cons_append]
  by_cases h0 : i < 0
  · have h1 : decide (i < 0) = true := by simpa using h0
    clear h
    go_wp2
    exact ⟨_, results_tmp rfl _ _ _, rfl, rfl⟩
  · have h1 : decide (i < 0) = false := by simpa using h0
    have h2 : n ≤ i := by omega
    have h3 : decide (n ≤ i) = true := by simpa using h2
    clear h
    go_wp2
    exact ⟨_, results_tmp rfl _ _ _, rfl, rfl⟩

set_option maxHeartbeats 1000000 in
theorem Ver_odd (w : World) (root s : ByteArray) (n i : Int) (pv : Value) (P : List ByteArray) (hsl : SL w pv P) (hlen : P.length ≤ 1000000) (hs : ∀ s ∈ P, s.size ≤ 9223372036854775807) (h0' : 0 ≤ i) (h1' : i < n) (hd : allD P = false) :
    Calls Tryd.prog 23 #[.string root, .int .i64 n, .int .i64 i, .string s, pv] w fun e w' => e = .returned (.bool false) ∧ w = w' := by
  have AL := Lib.hid (all_any w pv P hsl (by omega) hs)
  rw [hd] at AL
  clear hsl hs hd
  refine callsIn_wide (n := 9) |>.1 ?_
  refine callsIn_of_wp_marks Tryd.func23 rfl trivial ?_ rfl
  refine wpIn_wide.2 ?_
  simp only [Tryd.ntmps23, List.size_toArray, List.length_cons, List.length_nil, Nat.reduceAdd, Nat.reduceSub, Array.replicate_succ, Array.replicate_zero, List.push_toArray, List.append_toArray, List.nil_append, List.cons_append]
  have h0 : ¬ i < 0 := by omega
  have h2 : decide (i < 0) = false := by simpa using h0
  have h3 : ¬ n ≤ i := by omega
  have h4 : decide (n ≤ i) = false := by simpa using h3
  go_wp2_with fail
  refine AL.out.mono ?_
  rintro e w' ⟨rfl, rfl⟩
  go_wp2
  exact ⟨_, results_tmp rfl _ _ _, rfl, rfl⟩

/-- a row of sides, nil or not -/
theorem sides_form {w : World} {base : Nat} {v : Value} {acc : List (ByteArray × Bool)} (h : w.ownsRow base 75 2 v acc.length (sidesV acc)) (hw : 0 < w.heap.size) : ∃ a c g, v = .slice a acc.length c ∧ (0 < acc.length → a = some ⟨g, 0, none⟩ ∧ base ≤ g) ∧ g < w.heap.size ∧ (g = 0 ∨ base ≤ g) ∧ ∀ j u, (sidesV acc)[j]? = some u → w.cell? ⟨g, 0 + j, none⟩ = some u := by
  by_cases h0 : 0 < acc.length
  · obtain ⟨g, cap, e, h1, h2, h3, h4, h5⟩ := own_form h h0
    exact ⟨_, cap, g, e, fun _ => ⟨rfl, h1⟩, h2, .inr h1, fun j u hj => by rw [Nat.zero_add]; exact h5 j u hj⟩
  · have e0 : acc = [] := List.eq_nil_of_length_eq_zero (by omega)
    subst e0
    rcases h.2 with ⟨e, _⟩ | ⟨g, c, cur, e, _⟩
    · exact ⟨none, 0, 0, e, fun h => absurd h (by simp), hw, .inl rfl, by intro j u hj; simp [sidesV] at hj⟩
    · exact ⟨_, c, 0, e, fun h => absurd h (by simp), hw, .inl rfl, by intro j u hj; simp [sidesV] at hj⟩
/-- the sides from the end of a way on -/
def joinF (L : List (ByteArray × Bool)) (pre : List (Fin L.length)) (r : ByteArray) : ByteArray := pre.foldl (fun o x => Dig.join nodeB L[x] o) r
theorem joinF_snoc (L : List (ByteArray × Bool)) (pre : List (Fin L.length)) (x : Fin L.length) (r : ByteArray) : joinF L (pre ++ [x]) r = Dig.join nodeB L[x] (joinF L pre r) := by simp [joinF]
theorem join_size (s : ByteArray × Bool) (o : ByteArray) : (Dig.join nodeB s o).size = 32 := by unfold Dig.join; split <;> exact sumB_size _
theorem joinF_size (L : List (ByteArray × Bool)) (pre : List (Fin L.length)) (r : ByteArray) (hr : r.size = 32) : (joinF L pre r).size = 32 := by
  rcases snoc_cases pre with rfl | ⟨p, x, rfl⟩
  · exact hr
  · rw [joinF_snoc]; exact join_size _ _
theorem map_finRangeS (L : List (ByteArray × Bool)) : (List.finRange L.length).map (fun x => L[x]) = L := by
  apply List.ext_getElem
  · simp
  · intro i h1 h2; simp
theorem joinF_all (L : List (ByteArray × Bool)) (r : ByteArray) : joinF L (List.finRange L.length).reverse r = Dig.value nodeB r L := by
  unfold joinF Dig.value
  rw [List.foldl_reverse]
  have := List.foldr_map (f := fun x : Fin L.length => L[x]) (g := Dig.join nodeB) (l := List.finRange L.length) (init := r)
  rw [map_finRangeS] at this
  exact this.symm

/-- On the way down. -/
def VerS (w : World) (n i : Nat) (P : List ByteArray) (nn ii : Nat) (pv ov : Value) (wr : World) : Prop :=
  ∃ (t : List ByteArray) (acc : List (ByteArray × Bool)), SL w pv t.reverse ∧ wr.ownsRow w.heap.size 75 2 ov acc.length (sidesV acc) ∧ Below w.heap.size w wr ∧
    wayB n i P.reverse = (wayB nn ii t).map (fun r => (acc ++ r.1, r.2)) ∧ ii < nn ∧ nn ≤ n ∧ (∀ x ∈ acc, x.1.size = 32) ∧ (∀ x ∈ t, x.size = 32) ∧ acc.length + t.length = P.length

set_option maxRecDepth 100000 in
set_option maxHeartbeats 4000000 in
theorem Ver_main (w : World) (root s : ByteArray) (n i : Nat) (pv : Value) (P : List ByteArray) (hsl : SL w pv P) (hlen : P.length ≤ 1000000) (hsz : s.size ≤ 800000) (hi : i < n) (hn : n ≤ 9223372036854775807) (hd : allD P = true) (hR : RoundLaid w) (hroot : root.size ≤ 9223372036854775807) :
    Calls Tryd.prog 23 #[.string root, .int .i64 (n : Int), .int .i64 (i : Int), .string s, pv] w fun e w' => e = .returned (.bool (endB root (leafB s) (wayB n i P.reverse))) ∧ Below w.heap.size w w' := by
  obtain ⟨i75, hi75, hz75, hy75, hb75⟩ := info_parts Tryd.infoSide
  have hP32 := (allD_iff P).1 hd
  have AL := Lib.hid (all_any w pv P hsl (by omega) (fun s h => by have := hP32 s h; omega))
  rw [hd] at AL
  have V0 : Hid (VerS w n i P n i pv (.slice none 0 0) w) := Lib.hid ⟨P.reverse, [], by rw [List.reverse_reverse]; exact hsl, World.ownsRow_nil _ _ _ _, Below.refl _ _, by cases wayB n i P.reverse <;> rfl, hi, Nat.le_refl _, (by intro x hx; cases hx), fun x hx => hP32 x (List.mem_reverse.1 hx), by simp⟩
  have HR := Lib.hid hR
  clear hsl hd hP32 hR
  refine callsIn_wide (n := 9) |>.1 ?_
  refine callsIn_of_wp_marks Tryd.func23 rfl trivial ?_ rfl
  refine wpIn_wide.2 ?_
  simp only [Tryd.ntmps23, List.size_toArray, List.length_cons, List.length_nil, Nat.reduceAdd, Nat.reduceSub, Array.replicate_succ, Array.replicate_zero, List.push_toArray, List.append_toArray, List.nil_append, List.cons_append]
  have h0 : ¬ (i : Int) < 0 := by omega
  have h2 : decide ((i : Int) < 0) = false := decide_eq_false h0
  have h3 : ¬ (n : Int) ≤ (i : Int) := by omega
  have h4 : decide (n ≤ i) = false := decide_eq_false (by omega)
  go_wp2_with fail
  refine AL.out.mono ?_
  rintro e w' ⟨rfl, rfl⟩
  go_wp2
  go_loopw [1, 2, 4, 11, 12, 13, 14, 15] (fun nv iv pv ov _ _ _ _ wr => ∃ nn ii : Nat, nv = .int .i64 nn ∧ iv = .int .i64 ii ∧ VerS w n i P nn ii pv ov wr) (fun nv _ _ _ _ _ _ _ _ => (intOf nv).toNat)
  case atStart => exact ⟨n, i, rfl, rfl, V0.out⟩
  case round =>
    clear V0
    obtain ⟨nn, ii, rfl, rfl, hV⟩ := hrel
    obtain ⟨t, acc, hsl, hown, hbel, hway, hii, hnn, ha32, ht32, hln⟩ := hV
    have HOWN := Lib.hid hown
    have HBEL := Lib.hid hbel
    have HWAY := Lib.hid hway
    have HA32 := Lib.hid ha32
    have HT32 := Lib.hid ht32
    have ACL : acc.length ≤ 1000000 := by omega
    have HLN := Lib.hid hln
    clear hown hbel hway ha32 ht32
    by_cases h1' : 1 < nn
    · cases t with
      | nil =>
        obtain ⟨a, c, rfl, _, _⟩ := hsl.form
        have EN : Hid (endB root (leafB s) (wayB n i P.reverse) = false) := Lib.hid (by rw [HWAY.out, wayB, Dig.way_nil _ _ (by omega)]; rfl)
        have TN := Lib.hid (take_none a c wr)
        clear hsl hln HLN
        rw [show ([] : List ByteArray).reverse.length = 0 from rfl]
        go_wp2_with fail
        refine TN.out.mono ?_
        rintro e w' ⟨rfl, rfl⟩
        go_wp2
        exact ⟨_, results_tmp rfl _ _ _, by rw [EN.out]; rfl, HBEL.out⟩
      | cons x t =>
        obtain ⟨b, off, c, rfl, hc, hb, hcs⟩ := hsl.out (by simp)
        obtain ⟨q, hq⟩ : ∃ q, t.length = q := ⟨_, rfl⟩
        have hl1 : (x :: t).reverse.length = q + 1 := by simp [hq]
        rw [hl1] at hc ⊢
        have hcx : wr.cell? ⟨b, off + q, none⟩ = some (.string x) := (HBEL.out.cell (p := ⟨b, off + q, none⟩) hb).trans (hcs q x (by rw [List.reverse_cons, ← hq]; simp))
        have SLT : Hid (SL w (.slice (some ⟨b, off, none⟩) q c) t.reverse) := Lib.hid (SL.mk' (by simp [hq]) (by omega) hb (fun j y hj => hcs j y (by
          rw [List.reverse_cons, List.getElem?_append_left (by have := (List.getElem?_eq_some_iff.1 hj).1; exact this)]; exact hj)))
        have hqb : q ≤ 1000000 := by simp only [List.length_cons] at hln; omega
        have TS := Lib.hid (take_some b off q c x wr (by omega) hc hcx)
        have hx32 := HT32.out x (by simp)
        obtain ⟨k, hk⟩ : ∃ k, Dig.lft nn = k := ⟨_, rfl⟩
        have hk1 := Dig.lft_lt (n := nn) (by omega)
        have hk0 := Dig.lft_pos nn
        rw [hk] at hk1 hk0
        have LE := Lib.hid (left_any nn (by omega) (by omega))
        rw [hk] at LE
        have WC := Lib.hid (Dig.way_cons nn ii x t (by omega))
        rw [hk] at WC
        clear hsl hcs hl1 hq hk hcx hln
        go_wp2_with fail
        refine TS.out.mono ?_
        rintro e w' ⟨rfl, nq, rfl⟩
        have OW : Hid ((wr.drewN nq).ownsRow w.heap.size 75 2 u11 acc.length (sidesV acc)) := HOWN
        have BW : Hid (Below w.heap.size w (wr.drewN nq)) := Lib.hid ⟨HBEL.out.os, HBEL.out.tape, HBEL.out.output, HBEL.out.size, HBEL.out.block⟩
        clear HOWN HBEL TS
        generalize wr.drewN nq = W2 at *
        go_wp2_with fail
        refine (LE.out _).mono ?_
        rintro e w' ⟨rfl, rfl⟩
        have hz2 := BW.out.size
        by_cases hik : ii < k
        · have g0 : ¬ (k : Int) ≤ (ii : Int) := by omega
          have g1 : decide (k ≤ ii) = false := decide_eq_false (by omega)
          go_wp2_with (at_builtin; refine wpList_append_own _ rfl (.tmp 44) (.tmp 50) 71 rfl w.heap.size 75 i75 _ 2 24 Tryd.underlying71 hi75 hz75 hy75 hb75 rfl (by decide) _ _ _ rfl (OW.out.alloc _) ⟨W2.heap.size, 0, none⟩ 1 1 [.string x, .bool false] rfl rfl (World.news_of_block (cs := #[.string x, .bool false]) (t := 75) (fr := (0, 0)) (heap_alloc_new _ _)) (by simp [Value.oneCell']) (by simp only [maxLen]; omega) (by omega) (by simp; omega) ?_; intro v3 W4 hown hgr _; have O4 := Lib.hid hown; have G4 := Lib.hid hgr; clear hown hgr)
          go_roundw
          case rel =>
            have R : VerS w n i P k ii (.slice (some ⟨b, off, none⟩) q c) v3 W4 := ⟨t, acc ++ [(x, false)], SLT.out, by rw [List.length_append]; simpa [sidesV, sideV] using O4.out, (BW.out.alloc BW.out.size _).grown G4.out (by simp; omega) (fun k e => (OW.out.lt k e).1), by
              rw [HWAY.out, wayB, WC.out, if_pos hik, Option.map_map]
              unfold wayB
              congr 1
              funext r
              simp, hik, by omega, (fun y hy => by
                rcases List.mem_append.1 hy with hy | hy
                · exact HA32.out y hy
                · obtain rfl := List.mem_singleton.1 hy; exact hx32), fun y hy => HT32.out y (by simp [hy]), by have := HLN.out; simp at this ⊢; omega⟩
            first | exact ⟨_, _, rfl, rfl, R⟩ | ((repeat apply Exists.intro); exact ⟨⟨_, _, rfl, rfl, R⟩, rfl⟩)
          case measure => simp [intOf]; omega
        · have g0 : (k : Int) ≤ (ii : Int) := by omega
          have g1 : decide (k ≤ ii) = true := decide_eq_true (by omega)
          go_wp2_with (at_builtin; refine wpList_append_own _ rfl (.tmp 44) (.tmp 50) 71 rfl w.heap.size 75 i75 _ 2 24 Tryd.underlying71 hi75 hz75 hy75 hb75 rfl (by decide) _ _ _ rfl (OW.out.alloc _) ⟨W2.heap.size, 0, none⟩ 1 1 [.string x, .bool true] rfl rfl (World.news_of_block (cs := #[.string x, .bool true]) (t := 75) (fr := (0, 0)) (heap_alloc_new _ _)) (by simp [Value.oneCell']) (by simp only [maxLen]; omega) (by omega) (by simp; omega) ?_; intro v3 W4 hown hgr _; have O4 := Lib.hid hown; have G4 := Lib.hid hgr; clear hown hgr)
          go_roundw
          case rel =>
            have R : VerS w n i P (nn - k) (ii - k) (.slice (some ⟨b, off, none⟩) q c) v3 W4 := ⟨t, acc ++ [(x, true)], SLT.out, by rw [List.length_append]; simpa [sidesV, sideV] using O4.out, (BW.out.alloc BW.out.size _).grown G4.out (by simp; omega) (fun k e => (OW.out.lt k e).1), by
              rw [HWAY.out, wayB, WC.out, if_neg hik, Option.map_map]
              unfold wayB
              congr 1
              funext r
              simp, by omega, by omega, (fun y hy => by
                rcases List.mem_append.1 hy with hy | hy
                · exact HA32.out y hy
                · obtain rfl := List.mem_singleton.1 hy; exact hx32), fun y hy => HT32.out y (by simp [hy]), by have := HLN.out; simp at this ⊢; omega⟩
            have e1 : (nn : Int) - (k : Int) = ((nn - k : Nat) : Int) := by omega
            have e2 : (ii : Int) - (k : Int) = ((ii - k : Nat) : Int) := by omega
            rw [e1, e2]
            first | exact ⟨_, _, rfl, rfl, R⟩ | ((repeat apply Exists.intro); exact ⟨⟨_, _, rfl, rfl, R⟩, rfl⟩)
          case measure => simp [intOf]; omega
    · have EE : Hid (wayB n i P.reverse = some (acc, t)) := Lib.hid (by rw [HWAY.out, wayB, Dig.way_one _ _ _ (by omega)]; simp)
      have hw0 : 0 < w.heap.size := ltOf HR.out.choose_spec
      have LF := Lib.hid (Leaf_any s (by omega) wr (HR.out.below HBEL.out))
      obtain ⟨pa, pc, hpv, _, _⟩ := hsl.form
      have hpl : t.reverse.length = t.length := List.length_reverse
      rw [hpl] at hpv
      subst hpv
      have htl : t.length ≤ 1000000 := by omega
      have hq0 : (nn : Int) ≤ 1 := by omega
      clear hsl hpl hln HLN HWAY h1'
      go_wp2_with fail
      refine LF.out.mono ?_
      rintro e W1 ⟨rfl, hB1⟩
      have hown1 := own_below HOWN.out hB1
      have BW1 := Lib.hid (HBEL.out.trans (hB1.mono HBEL.out.size))
      have hz1 := BW1.out.size
      obtain ⟨ga, gc, g, hu, hga, hgl, hg0, hgc⟩ := sides_form hown1 (by omega)
      subst hu
      have HGC := Lib.hid hgc
      have HGA := Lib.hid hga
      clear hB1 HOWN HBEL hown1 hgc hga
      have hlf : (leafB s).size = 32 := sumB_size _
      generalize hLF : leafB s = lf at *
      have HLF := Lib.hid hLF
      clear hLF
      go_wp2_with fail
      refine (BackS_any _ rfl _).mono ?_
      rintro e W4 ⟨rfl, hW4⟩
      have w4 := hW4
      have hBo : W4.heap[W1.heap.size]? = some (.cells #[.string lf] 9 (0, 0)) := by rw [← w4, allocOld (by simp)]; exact allocAt _ rfl
      have hBs : W4.heap[W1.heap.size + 1]? = some (.cells #[.slice ga acc.length gc] 71 (0, 0)) := by rw [← w4]; exact allocAt _ (by simp)
      have hB4 : Below w.heap.size w W4 := by rw [← w4]; exact (BW1.out.alloc BW1.out.size _).alloc (by simp; omega) _
      have hsz : W4.heap.size = W1.heap.size + 2 := by rw [← w4]; simp
      have hcs4 : ∀ j u, (sidesV acc)[j]? = some u → W4.cell? ⟨g, 0 + j, none⟩ = some u := fun j u hj => by
        rw [← w4, World.cell?_alloc_past _ _ _ (by simp; omega), World.cell?_alloc_past _ _ _ hgl]; exact HGC.out j u hj
      have hR4 : RoundLaid W4 := HR.out.below hB4
      have HBo := Lib.hid hBo
      have HBs := Lib.hid hBs
      have HB4 := Lib.hid hB4
      have HSZ := Lib.hid hsz
      have HCS4 := Lib.hid hcs4
      have HR4 := Lib.hid hR4
      clear w4 hW4 hBo hBs hB4 hsz hcs4 hR4 HGC
      go_wp2
      refine (wpIn_wide (n := 9)).1 ?_
      refine rangeH rfl (by omega) (gf := 88) (lb := #[.pointer (some ⟨W1.heap.size + 1, 0, none⟩)]) rfl trivial (enters_of Tryd.func88 (by kernel_rfl) rfl)
        (backS_stops 8 (by omega) (W1.heap.size + 1) g 0 gc acc (by omega) W4 _ _ ga (fun h => (HGA.out h).1) HBs.out (fun _ => by have := HSZ.out; omega) HCS4.out) KeepT.trans (KeepT.putObj (by have := HSZ.out; intro k hk; omega)) (Below.refl _ _) (fun _ => rfl)
        (fun (pre : List (Fin acc.length)) W => W.heap[W1.heap.size]? = some (.cells #[.string (joinF acc pre lf)] 9 (0, 0)) ∧ Upd (· = W1.heap.size) W4 W)
        (fun _ _ _ => False)
        (OwnFrom.and (ownFrom_at W1.heap.size (fun pre => .cells #[.string (joinF acc pre lf)] 9 (0, 0)) (by have := HSZ.out; omega)) (ownFrom_upd (Nat.le_refl _)))
        (fun _ _ _ _ _ hs _ _ => hs)
        ⟨HBo.out, Upd.refl _ _⟩
        (fun x => .cells #[.string acc[x].1, .bool acc[x].2] 75 (0, 0)) (fun _ => rfl)
        (fun x Bx T => ((T.setIfInBounds 66 (.int .i64 (x.1 : Int))).setIfInBounds 67 (sideA acc[x])).setIfInBounds 18 (.pointer (some ⟨Bx, 0, none⟩))) ?assign (fun _ _ h => h.2.size) ?body ?done ?stop
      case assign =>
        intro l pre x W K hsW hI hK
        have HI := Lib.hid hI
        have HK := Lib.hid hK
        clear hI hK
        unfold sideA at HK ⊢
        generalize acc[x] = ax at *
        obtain ⟨a1, a2⟩ := ax
        dsimp only at *
        gi_wp2
        have hk := HK.out W.heap.size (W.alloc (.cells #[.string a1, .bool a2] 75)) hsW
        simp only [List.setIfInBounds_toArray, List.set_cons_zero, List.set_cons_succ] at hk
        have hU : Upd (fun _ => False) W (W.alloc (.cells #[.string a1, .bool a2] 75)) := (Upd.refl _ W).alloc _
        exact hk (keepsFrom_of_upd hU (fun _ h => h.elim)) (KeepT.of_upd hU (fun k hk => ⟨by have := HSZ.out; omega, fun h => h⟩)) ⟨by rw [allocOld (ltOf HI.out.1)]; exact HI.out.1, HI.out.2.alloc _⟩ (allocAt _ rfl)
      case body =>
        rintro l pre x Bx W hbx hobx ⟨hh, hU⟩ hlt
        have HH := Lib.hid hh
        have HU := Lib.hid hU
        have hcc : W.cell? ⟨W1.heap.size, 0, none⟩ = some (.string (joinF acc pre lf)) := by rw [cellOf hh]; rfl
        have hx1 : W.cell? ⟨Bx, 0, none⟩ = some (.string acc[x].1) := by rw [cellOf hobx]; rfl
        have hx2 : W.cell? ⟨Bx, 1, none⟩ = some (.bool acc[x].2) := by rw [cellOf hobx]; rfl
        clear hh hU hobx
        have hbs := joinF_size acc pre lf hlf
        have hx32 := HA32.out acc[x] (List.getElem_mem x.2)
        have JN := Lib.hid (fun W (h : RoundLaid W) => join_any acc[x].1 (joinF acc pre lf) acc[x].2 (by omega) W h)
        have HSN := Lib.hid (joinF_snoc acc pre x lf)
        simp only [List.setIfInBounds_toArray, List.set_cons_zero, List.set_cons_succ]
        unfold sideA
        generalize joinF acc pre lf = o1 at *
        generalize acc[x] = ax at *
        obtain ⟨a1, a2⟩ := ax
        dsimp only at *
        gi_wp2
        refine ⟨trivial, ?_⟩
        refine (CallsIn.inRound l (callsIn_wide.2 (JN.out W (HR4.out.upd HU.out (by omega))))).mono ?_
        rintro e W' ⟨rfl, h2⟩
        have hh2 : W'.heap[W1.heap.size]? = some (.cells #[.string o1] 9 (0, 0)) := by rw [h2.block _ (ltOf HH.out)]; exact HH.out
        have cc2 : W'.cell? ⟨W1.heap.size, 0, none⟩ = some (.string o1) := by rw [cellOf hh2]; rfl
        have ff2 : W'.frozen? ⟨W1.heap.size, 0, none⟩ = false := frozenOf hh2 0
        have H2 := Lib.hid h2
        have HH2 := Lib.hid hh2
        clear h2 hh2
        obtain ⟨o2, ho2⟩ : ∃ o2, (if a2 = true then nodeB a1 o1 else nodeB o1 a1) = o2 := ⟨_, rfl⟩
        rw [ho2]
        have HO2 := Lib.hid ho2
        clear ho2
        gi_wp2
        have hU3 : Upd (· = W1.heap.size) W (W'.setCell ⟨W1.heap.size, 0, none⟩ (.string o2)) := (Upd.of_below H2.out).setCell _ _ (.inl rfl)
        exact ⟨keepsFrom_of_upd hU3 (fun k hk => by have hk' : k = W1.heap.size := hk; have := HSZ.out; omega), KeepT.of_upd hU3 (fun k hk => ⟨by have := HU.out.size; have := HSZ.out; omega, fun e => by have hk' : k = W1.heap.size := e; omega⟩), by rw [setOf_ HH2.out 0 _, HSN.out, ← HO2.out]; rfl, HU.out.trans hU3 (fun _ _ h => h)⟩
      case done =>
        rintro D ys W hD rfl ⟨hh, hU⟩ hK
        have hcc : W.cell? ⟨W1.heap.size, 0, none⟩ = some (.string (Dig.value nodeB lf acc)) := by rw [cellOf hh, joinF_all]; rfl
        have HU := Lib.hid hU
        have HK := Lib.hid hK
        clear hh hU hK
        generalize hval : Dig.value nodeB lf acc = val at *
        have HVAL := Lib.hid hval
        clear hval
        have hW : Below w.heap.size w W := HB4.out.trans (HU.out.below' (by have := HSZ.out; omega) (by intro i hi h; have h' : i = W1.heap.size := h; omega))
        have hF := hW.trans (belowK_b (w := w) (Nat.le_refl _) W D (.deferred (some [])) (.deferred none) (by have := HSZ.out; omega) HK.out rfl rfl)
        have HF := Lib.hid hF
        clear hW hF
        cases t with
        | nil =>
          rw [show ([] : List ByteArray).length = 0 from rfl]
          have EV : Hid (endB root lf (wayB n i P.reverse) = (val == root)) := Lib.hid (by rw [EE.out]; show (true && (Dig.value nodeB lf acc == root)) = _; rw [HVAL.out]; rfl)
          go_wp2
          refine ⟨by simp, .inl ⟨_, _, rfl, run_takeDeferred HK.out, ?_⟩⟩
          exact ⟨_, results_tmp rfl _ _ _, by rw [HLF.out, EV.out, beq_toListBytes]; rfl, HF.out⟩
        | cons y t =>
          have EV : Hid (endB root lf (wayB n i P.reverse) = false) := Lib.hid (by rw [EE.out]; rfl)
          have hb0 : (((y :: t).length : Int) == 0) = false := beq_false_of_ne (by simp; omega)
          generalize (y :: t).length = tl at *
          go_wp2
          refine ⟨by simp, .inl ⟨_, _, rfl, run_takeDeferred HK.out, ?_⟩⟩
          exact ⟨_, results_tmp rfl _ _ _, by rw [HLF.out, EV.out]; rfl, HF.out⟩
      case stop =>
        rintro D c pre W _ _ h _
        exact h.elim

theorem Ver_any (w : World) (root s : ByteArray) (n i : Int) (pv : Value) (P : List ByteArray) (hsl : SL w pv P) (hlen : P.length ≤ 1000000) (hs : ∀ s ∈ P, s.size ≤ 9223372036854775807) (hsz : s.size ≤ 800000) (hn : n ≤ 9223372036854775807) (hR : RoundLaid w) (hroot : root.size ≤ 9223372036854775807) :
    Calls Tryd.prog 23 #[.string root, .int .i64 n, .int .i64 i, .string s, pv] w fun e w' => e = .returned (.bool (verB root n i s P)) ∧ Below w.heap.size w w' := by
  by_cases h : 0 ≤ i ∧ i < n
  · obtain ⟨I, rfl⟩ := Int.eq_ofNat_of_zero_le h.1
    obtain ⟨N, rfl⟩ := Int.eq_ofNat_of_zero_le (show 0 ≤ n by omega)
    cases hd : allD P with
    | true =>
      refine (Ver_main w root s N I pv P hsl hlen hsz (by omega) (by omega) hd hR hroot).mono ?_
      rintro e w' ⟨rfl, hb⟩
      refine ⟨ret_bool ?_, hb⟩
      rw [verB, hd, decide_eq_true h.1, decide_eq_true h.2]
      rfl
    | false =>
      refine (Ver_odd w root s N I pv P hsl hlen hs h.1 h.2 hd).mono ?_
      rintro e w' ⟨rfl, rfl⟩
      exact ⟨ret_bool (by rw [verB, hd]; simp), Below.refl _ _⟩
  · refine (Ver_out w root s n i pv h).mono ?_
    rintro e w' ⟨rfl, rfl⟩
    refine ⟨ret_bool ?_, Below.refl _ _⟩
    rw [verB]
    have : (decide (0 ≤ i) && decide (i < n)) = false := by simpa using h
    rw [this]; rfl
end Go.Proofs.YtljgphmdiflphaaDoor
namespace Go.Proofs.YtljgphmdiflphaaDoor
set_option linter.unusedVariables false

def pre1 (m : UInt8) (a : ByteArray) : ByteArray := (⟨#[m]⟩ : ByteArray) ++ a
def pre2 (m : UInt8) (a b : ByteArray) : ByteArray := (⟨#[m]⟩ : ByteArray) ++ a ++ b
theorem catB_one (m : UInt8) (a : ByteArray) : catB m [a] = pre1 m a := by
  apply ByteArray.ext
  apply Array.toList_inj.1
  simp [catB, pre1, ByteArray.data_append]
theorem catB_two (m : UInt8) (a b : ByteArray) : catB m [a, b] = pre2 m a b := by
  apply ByteArray.ext
  apply Array.toList_inj.1
  simp [catB, pre2, ByteArray.data_append]
theorem pre1_inj {m : UInt8} {a b : ByteArray} (h : pre1 m a = pre1 m b) : a = b := by
  have h1 := congrArg (fun x : ByteArray => x.data.toList) h
  simp [pre1, ByteArray.data_append] at h1
  exact ByteArray.ext (by simpa using h1)
theorem pre2_inj {m : UInt8} {a b c d : ByteArray} (h : pre2 m a b = pre2 m c d) (hs : a.size = c.size) : a = c ∧ b = d := by
  have h1 := congrArg (fun x : ByteArray => x.data.toList) h
  simp [pre2, ByteArray.data_append] at h1
  have h2 := List.append_inj h1 (by simpa using hs)
  exact ⟨ByteArray.ext (by simpa using h2.1), ByteArray.ext (by simpa using h2.2)⟩

def wayP : Nat → Nat → ByteArray → List ByteArray → List ByteArray × ByteArray
  | n, i, s, [] => ([pre1 0 s], leafB s)
  | n, i, s, x :: t => if n ≤ 1 then ([pre1 0 s], leafB s) else
    if i < Dig.lft n then (pre2 1 (wayP (Dig.lft n) i s t).2 x :: (wayP (Dig.lft n) i s t).1, nodeB (wayP (Dig.lft n) i s t).2 x)
    else (pre2 1 x (wayP (n - Dig.lft n) (i - Dig.lft n) s t).2 :: (wayP (n - Dig.lft n) (i - Dig.lft n) s t).1, nodeB x (wayP (n - Dig.lft n) (i - Dig.lft n) s t).2)
theorem wayP_size : ∀ (t : List ByteArray) (n i : Nat) (s : ByteArray), (wayP n i s t).2.size = 32 := by
  intro t
  cases t with
  | nil => intro n i s; rw [wayP]; exact sumB_size _
  | cons x t =>
    intro n i s
    rw [wayP]
    split
    · exact sumB_size _
    · split <;> exact sumB_size _
theorem wayP_length : ∀ (t : List ByteArray) (n i : Nat) (s : ByteArray), (wayP n i s t).1.length ≤ t.length + 1 := by
  intro t
  induction t with
  | nil => intro n i s; rw [wayP]; simp
  | cons x t ih =>
    intro n i s
    rw [wayP]
    split
    · simp
    · split
      · have := ih (Dig.lft n) i s; simp only [List.length_cons]; omega
      · have := ih (n - Dig.lft n) (i - Dig.lft n) s; simp only [List.length_cons]; omega
theorem wayP_value : ∀ (t : List ByteArray) (n i : Nat) (s : ByteArray) (ws : List (ByteArray × Bool)) (r : List ByteArray), wayB n i t = some (ws, r) → (wayP n i s t).2 = Dig.value nodeB (leafB s) ws := by
  intro t
  induction t with
  | nil =>
    intro n i s ws r h
    unfold wayB at h
    by_cases h2 : 2 ≤ n
    · rw [Dig.way_nil _ _ h2] at h; cases h
    · rw [Dig.way_one _ _ _ (by omega)] at h
      cases h; rw [wayP]; rfl
  | cons x t ih =>
    intro n i s ws r h
    unfold wayB at h ih
    by_cases h2 : 2 ≤ n
    · rw [Dig.way_cons _ _ _ _ h2] at h
      rw [wayP, if_neg (by omega)]
      split at h
      · rename_i hk
        rw [if_pos hk]
        obtain ⟨⟨ws', r'⟩, e1, e2⟩ := Option.map_eq_some_iff.1 h
        cases e2
        rw [Dig.value_cons, ← ih _ _ s _ _ e1]; rfl
      · rename_i hk
        rw [if_neg hk]
        obtain ⟨⟨ws', r'⟩, e1, e2⟩ := Option.map_eq_some_iff.1 h
        cases e2
        rw [Dig.value_cons, ← ih _ _ s _ _ e1]; rfl
    · rw [Dig.way_one _ _ _ (by omega)] at h
      cases h
      rw [wayP, if_pos (by omega)]; rfl

def collB : List ByteArray → List ByteArray → Bool
  | a :: xs, b :: ys => (!(a == b) && (sumB a == sumB b)) || collB xs ys
  | _, _ => false
theorem beq_iffB {a b : ByteArray} : (a == b) = true ↔ a = b := by
  rw [beq_toListBytes, beq_iff_eq]
  exact ⟨fun h => ByteArray.ext (by rw [ByteArray.toList_eq, ByteArray.toList_eq] at h; exact Array.toList_inj.1 h), fun h => by rw [h]⟩
theorem neB {a b : ByteArray} (h : a ≠ b) : (a == b) = false := by
  cases e : (a == b) with
  | false => rfl
  | true => exact absurd (beq_iffB.1 e) h
theorem sameB (a : ByteArray) : (a == a) = true := beq_iffB.2 rfl
theorem collB_head {a b : ByteArray} {xs ys : List ByteArray} (h : a ≠ b) (hs : sumB a = sumB b) : collB (a :: xs) (b :: ys) = true := by
  rw [collB, neB h, hs, sameB]; rfl
theorem collB_tail {a b : ByteArray} {xs ys : List ByteArray} (h : collB xs ys = true) : collB (a :: xs) (b :: ys) = true := by
  rw [collB, h]; simp

theorem wayP_coll : ∀ (t t' : List ByteArray) (n i : Nat) (s s' : ByteArray), (∀ x ∈ t, x.size = 32) → (∀ x ∈ t', x.size = 32) → (wayB n i t).isSome → (wayB n i t').isSome → (wayP n i s t).2 = (wayP n i s' t').2 → s ≠ s' → collB (wayP n i s t).1 (wayP n i s' t').1 = true := by
  intro t
  induction t with
  | nil =>
    intro t' n i s s' _ _ h1 h2 hv hs
    have hn : n ≤ 1 := by
      by_cases h : 2 ≤ n
      · unfold wayB at h1; rw [Dig.way_nil _ _ h] at h1; cases h1
      · omega
    have e1 : wayP n i s [] = ([pre1 0 s], leafB s) := rfl
    have e2 : wayP n i s' t' = ([pre1 0 s'], leafB s') := by
      cases t' with
      | nil => rfl
      | cons x t' => rw [wayP, if_pos hn]
    rw [e1, e2] at hv ⊢
    exact collB_head (fun h => hs (pre1_inj h)) (by simpa [leafB, catB_one] using hv)
  | cons x t ih =>
    intro t' n i s s' hx hx' h1 h2 hv hs
    by_cases hn : n ≤ 1
    · have e1 : wayP n i s (x :: t) = ([pre1 0 s], leafB s) := by rw [wayP, if_pos hn]
      have e2 : wayP n i s' t' = ([pre1 0 s'], leafB s') := by
        cases t' with
        | nil => rfl
        | cons x t' => rw [wayP, if_pos hn]
      rw [e1, e2] at hv ⊢
      exact collB_head (fun h => hs (pre1_inj h)) (by simpa [leafB, catB_one] using hv)
    · cases t' with
      | nil => unfold wayB at h2; rw [Dig.way_nil _ _ (by omega)] at h2; cases h2
      | cons x' t' =>
        unfold wayB at h1 h2
        rw [Dig.way_cons _ _ _ _ (by omega)] at h1 h2
        rw [wayP, if_neg hn] at hv ⊢
        rw [wayP, if_neg hn] at hv ⊢
        have z1 := hx x (by simp)
        have z2 := hx' x' (by simp)
        by_cases hk : i < Dig.lft n
        · rw [if_pos hk] at h1 h2 hv ⊢
          rw [if_pos hk] at hv ⊢
          have i1 : (wayB (Dig.lft n) i t).isSome := by simpa [wayB] using h1
          have i2 : (wayB (Dig.lft n) i t').isSome := by simpa [wayB] using h2
          by_cases he : pre2 1 (wayP (Dig.lft n) i s t).2 x = pre2 1 (wayP (Dig.lft n) i s' t').2 x'
          · obtain ⟨e1, e2⟩ := pre2_inj he (by rw [wayP_size, wayP_size])
            exact collB_tail (ih t' _ _ s s' (fun y hy => hx y (by simp [hy])) (fun y hy => hx' y (by simp [hy])) i1 i2 e1 hs)
          · exact collB_head he (by simpa [nodeB, catB_two] using hv)
        · rw [if_neg hk] at h1 h2 hv ⊢
          rw [if_neg hk] at hv ⊢
          have i1 : (wayB (n - Dig.lft n) (i - Dig.lft n) t).isSome := by simpa [wayB] using h1
          have i2 : (wayB (n - Dig.lft n) (i - Dig.lft n) t').isSome := by simpa [wayB] using h2
          by_cases he : pre2 1 x (wayP (n - Dig.lft n) (i - Dig.lft n) s t).2 = pre2 1 x' (wayP (n - Dig.lft n) (i - Dig.lft n) s' t').2
          · obtain ⟨e1, e2⟩ := pre2_inj he (by rw [z1, z2])
            exact collB_tail (ih t' _ _ s s' (fun y hy => hx y (by simp [hy])) (fun y hy => hx' y (by simp [hy])) i1 i2 e2 hs)
          · exact collB_head he (by simpa [nodeB, catB_two] using hv)

theorem verB_coll {root : ByteArray} {n i : Int} {s s' : ByteArray} {P Q : List ByteArray} (h1 : verB root n i s P = true) (h2 : verB root n i s' Q = true) (hs : s ≠ s') :
    collB (wayP n.toNat i.toNat s P.reverse).1 (wayP n.toNat i.toNat s' Q.reverse).1 = true := by
  unfold verB at h1 h2
  simp only [Bool.and_eq_true] at h1 h2
  have a1 := (allD_iff _).1 h1.1.2
  have a2 := (allD_iff _).1 h2.1.2
  cases hw : wayB n.toNat i.toNat P.reverse with
  | none => rw [hw] at h1; cases h1.2
  | some r =>
    cases hw' : wayB n.toNat i.toNat Q.reverse with
    | none => rw [hw'] at h2; cases h2.2
    | some r' =>
      obtain ⟨ws, r⟩ := r
      obtain ⟨ws', r'⟩ := r'
      rw [hw] at h1; rw [hw'] at h2
      have v1 := h1.2; have v2 := h2.2
      simp only [endB, Bool.and_eq_true] at v1 v2
      refine wayP_coll _ _ _ _ _ _ (fun x hx => a1 x (List.mem_reverse.1 hx)) (fun x hx => a2 x (List.mem_reverse.1 hx)) (by rw [hw]; rfl) (by rw [hw']; rfl) ?_ hs
      rw [wayP_value _ _ _ _ _ _ hw, wayP_value _ _ _ _ _ _ hw', beq_iffB.1 v1.2, beq_iffB.1 v2.2]
end Go.Proofs.YtljgphmdiflphaaDoor
namespace Go.Proofs.YtljgphmdiflphaaDoor
open Go.RowKit
set_option linter.unusedVariables false

theorem NL.blk {w wr : World} {n : Nat} {v : Value} {l : List Nat} (h : OWd w l n v wr) (hl : l.length = n) (h0 : 0 < n) : NL wr v l := NL.own h.row hl h0
theorem OB.cells {w wr : World} {l : List Nat} {n : Nat} {v : Value} (h : OB w l n v wr) (hl : l.length = n) (h0 : 0 < n) : ∃ g c, v = .slice (some ⟨g, 0, none⟩) n c ∧ n ≤ c ∧ g < wr.heap.size ∧ ∀ j, j < n → wr.cell? ⟨g, j, none⟩ = some (.int .u8 (l.getD j 0 : Nat)) := by
  rcases h.row.2 with ⟨_, e⟩ | ⟨g, c, cur, e, hb, hg, hc, hm, _⟩
  · omega
  · subst e
    refine ⟨g, c, rfl, hc, ltOf hg, fun j hj => ?_⟩
    have := h.row.cells (g := g) rfl j (.int .u8 (l.getD j 0 : Nat)) (by simp [nv, List.getD_eq_getElem?_getD, List.getElem?_eq_getElem (show j < l.length by omega)])
    have ha : (⟨g, 0, none⟩ : Addr).add j = ⟨g, j, none⟩ := by unfold Addr.add; split <;> simp_all
    rwa [ha] at this
theorem OB.conv {w wr : World} {F : List Nat} {n : Nat} {v : Value} (h : OB w F n v wr) (hl : F.length = n) (h0 : 0 < n) (hF : Sha.bytes F) :
    (convert 45 9 v).run Tryd.prog wr = .ok (.string ⟨(F.map UInt8.ofNat).toArray⟩) wr := by
  obtain ⟨g, c, rfl, _, _, hc⟩ := h.cells hl h0
  have hr := run_convert_bytes_arg (P := Tryd.prog) wr 45 5 Tryd.underlying45 Tryd.underlying5 g 0 n c (F.map fun (x : Nat) => (x : Int)) (by simpa using hl) (fun i hi => by
    rw [Nat.zero_add, hc i hi]
    simp [List.getD_eq_getElem?_getD, List.getElem?_eq_getElem (show i < F.length by omega)]) 9 Tryd.underlying9
  rw [hr]
  simp [strOfNums, Function.comp_def]
theorem be4_int (x : Nat) (hx : x < 4294967296) : [Value.int .u8 ((x : Int) / 16777216 % 256), .int .u8 ((x : Int) / 65536 % 256), .int .u8 ((x : Int) / 256 % 256), .int .u8 ((x : Int) % 256)] = nv (Sha.be4 x) := by
  simp [nv, Sha.be4]
theorem flat_take (H : List Nat) (k : Nat) (h : k < H.length) : (H.take (k + 1)).flatMap Sha.be4 = (H.take k).flatMap Sha.be4 ++ Sha.be4 H[k] := by
  rw [List.take_succ_eq_append_getElem h, List.flatMap_append, List.flatMap_singleton]
theorem news_many {w : World} {B : Nat} {cs : Array Value} {xs : List Value} {t : TypeId} {fr : Nat × Nat} (hb : w.heap[B]? = some (.cells cs t fr)) (h : cs.toList = xs) : ∀ j u, xs[j]? = some u → w.cell? ((⟨B, 0, none⟩ : Addr).add j) = some u := by
  subst h; exact World.news_of_block hb

set_option maxRecDepth 100000 in
set_option maxHeartbeats 8000000 in
theorem RSum_any (s : ByteArray) (hs : s.size ≤ 1000000) (w : World) :
    Calls Tryd.prog 32 #[.string s] w fun e w' => e = .returned (.string (sumB s)) ∧ Below w.heap.size w w' := by
  obtain ⟨i0, hi, hz0, hz1, hz2⟩ := info_parts Tryd.infoByte'
  have HN := Lib.hid (nats_len s)
  have HNB := Lib.hid (Sha.pad_bytes _ (Sha.nats_bytes s.data.toList))
  obtain ⟨W0, hW0⟩ : ∃ W0, w.alloc (.cells (wv Sha.H0).toArray 82) = W0 := ⟨_, rfl⟩
  have N0 : NL W0 (.slice (some ⟨w.heap.size, 0, none⟩) 8 8) Sha.H0 := by rw [← hW0]; exact NL.lit w Sha.H0 82
  have B0 : Below w.heap.size w W0 := by rw [← hW0]; exact (Below.refl _ w).alloc (Nat.le_refl _) _
  have HN0 := Lib.hid N0
  have HB0 := Lib.hid B0
  have HW0 := Lib.hid hW0
  have EX := Lib.hid (extended_any s hs W0)
  have HS : Hid (∀ h, h = Sha.run ((s.size + 72) / 64) Sha.H0 (Sha.pad (Sha.nats s.data.toList)) → (⟨((h.flatMap Sha.be4).map UInt8.ofNat).toArray⟩ : ByteArray) = sumB s) := Lib.hid (fun h e => by
    rw [e]; unfold sumB Sha.sum Sha.sumN; rw [HN.out])
  clear N0 B0 hW0
  go_enter Tryd.func32, Tryd.ntmps32
  go_wp2_with fail
  generalize hWx : World.alloc w _ = Wx
  obtain rfl : W0 = Wx := HW0.out.symm.trans hWx
  clear hWx
  refine EX.out.mono ?_
  rintro e W1 ⟨bv, rfl, hO⟩
  obtain ⟨N, hN⟩ : ∃ N, Sha.pad (Sha.nats s.data.toList) = N := ⟨_, rfl⟩
  have hNl : N.length = 64 * ((s.size + 72) / 64) := by rw [← hN, Sha.pad_length, HN.out]; omega
  rw [hN] at hO HS HNB
  obtain ⟨m, hm⟩ : ∃ m, (s.size + 72) / 64 = m := ⟨_, rfl⟩
  rw [hm] at hNl HS
  have hm1 : 1 ≤ m := by omega
  have hmb : m ≤ 1000000 := by omega
  obtain ⟨gb, cb, rfl, hcb, hgb, hcs⟩ := hO.cells rfl (by omega)
  have HB1 := Lib.hid (HB0.out.trans (hO.below.mono HB0.out.size))
  have HN1 := Lib.hid (HN0.out.below hO.below)
  have HNL := Lib.hid hNl
  rw [hNl] at hcb hcs ⊢
  have HCS := Lib.hid hcs
  clear EX hO HN0 HB0 HW0 hN hNl hm hcs HN
  go_wp2
  go_loopw [3, 5] (fun hv i wr => ∃ k : Nat, k ≤ m ∧ i = .int .i64 (64 * (k : Int)) ∧ NL wr hv (Sha.run k Sha.H0 N) ∧ Below W1.heap.size W1 wr) (fun _ i _ => 64 * m - (intOf i).toNat)
  case atStart => exact ⟨0, by omega, rfl, HN1.out, Below.refl _ _⟩
  case round =>
    clear HN1
    obtain ⟨k, hk, rfl, hNk, hBk⟩ := hrel
    have HNk := Lib.hid hNk
    have HBk := Lib.hid hBk
    clear hNk hBk
    by_cases hlt : k < m
    · have RS := Lib.hid (Sha.run_succ k Sha.H0 N)
      have hl8 := Sha.run_length k Sha.H0 N rfl
      have hsm := Sha.run_small k Sha.H0 N Sha.H0_small
      have hbs : Sha.bytes ((N.drop (64 * k)).take 64) := fun x hx => HNB.out x (List.mem_of_mem_drop (List.mem_of_mem_take hx))
      have hbl : ((N.drop (64 * k)).take 64).length = 64 := by rw [List.length_take, List.length_drop, HNL.out]; omega
      have hba : BytesAt wr gb (64 * k) ((N.drop (64 * k)).take 64) := fun i hi => by
        rw [hbl] at hi
        rw [(HBk.out.cell (p := ⟨gb, 64 * k + i, none⟩) hgb), HCS.out (64 * k + i) (by omega)]
        rw [List.getD_eq_getElem?_getD, List.getD_eq_getElem?_getD, List.getElem?_take, if_pos hi, List.getElem?_drop]
      have BK := Lib.hid (block_any _ _ hl8 hsm hbs hbl u3 wr HNk.out gb (64 * k) (cb - 64 * k) (Nat.lt_of_lt_of_le hgb HBk.out.size) hba)
      have b0 : 64 * (k : Int) ≤ 64 * (k : Int) + 64 := by omega
      have b1 : 64 * (k : Int) + 64 ≤ 64 * (m : Int) := by omega
      have b2 : 64 * (k : Int) + 64 ≤ (cb : Int) := by omega
      clear hbs hba hbl hsm
      go_wp2_with fail
      refine BK.out.mono ?_
      rintro e W2 ⟨v2, rfl, hO⟩
      have HN2 : Hid (NL W2 v2 (Sha.run (k + 1) Sha.H0 N)) := Lib.hid (by
        rw [RS.out]
        exact NL.own hO.row (Sha.blk_length _ _ hl8) (by decide))
      have HB2 := Lib.hid (HBk.out.trans (hO.below.mono HBk.out.size))
      clear BK hO RS hl8
      go_wp2
      go_roundw
      case rel => first | exact ⟨k + 1, by omega, by go_num, HN2.out, HB2.out⟩ | ((repeat apply Exists.intro); exact ⟨⟨k + 1, by omega, by go_num, HN2.out, HB2.out⟩, rfl⟩)
      case measure => simp [intOf]; omega
    · obtain rfl : k = m := by omega
      have hl8 := Sha.run_length k Sha.H0 N rfl
      have hsm := Sha.run_small k Sha.H0 N Sha.H0_small
      have FIN := Lib.hid (HS.out _ rfl)
      generalize Sha.run k Sha.H0 N = H at *
      obtain ⟨gh, oh, ch, rfl, hch, hgh, hcH⟩ := HNk.out.form
      rw [hl8] at hch ⊢
      have HCH := Lib.hid hcH
      have HL8 := Lib.hid hl8
      have HSM := Lib.hid hsm
      have BW := Lib.hid (HB1.out.trans (HBk.out.mono HB1.out.size))
      clear hcH hl8 hsm HNk HBk HB1 HS HCS HNL HNB
      obtain ⟨wo, rfl⟩ : ∃ wo : World, wo = wr := ⟨_, rfl⟩
      go_wp2
      go_loopw [6, 7] (fun ov i wq => ∃ k : Nat, k ≤ 8 ∧ i = .int .i64 k ∧ OB wo ((H.take k).flatMap Sha.be4) (4 * k) ov wq) (fun _ i _ => 8 - (intOf i).toNat)
      case atStart => exact ⟨0, by omega, rfl, World.ownsRow_nil _ _ _ _, Below.refl _ _⟩
      case round =>
        obtain ⟨j, hj, rfl, hO⟩ := hrel
        have HO := Lib.hid hO
        clear hO
        by_cases hlt : j < 8
        · have hjl : j < H.length := by rw [HL8.out]; exact hlt
          have c0 : wr.cell? ⟨gh, oh + j, none⟩ = some (.int .u32 (H[j] : Nat)) := (HO.out.below.cell (p := ⟨gh, oh + j, none⟩) hgh).trans (HCH.out j _ (List.getElem?_eq_getElem hjl))
          have lx : H[j] < 4294967296 := HSM.out _ (List.getElem_mem hjl)
          have N1 := Lib.hid (flat_take H j hjl)
          have hne1 : ∀ b, u6.ownBlock = some b → b ≠ gh := fun b e => by have := (HO.out.row.lt b e).1; omega
          have q0 : (j : Int) < 8 := by omega
          generalize H[j] = x at *
          go_wp2
          go_region_held3 (fun w' => w'.cell? ⟨gh, oh + j, none⟩ = some (.int .u32 (x : Nat)))
            ((first | (with_reducible exact c0) | (with_reducible exact keepA c0) | (with_reducible exact keepA0 c0) | (with_reducible exact d0) | go_keep))
            ((refine step_append_lies _ (by rfl) _ _ _ (by rfl) wo.heap.size 5 i0 _ 1 1 Tryd.underlying45 hi hz0 hz1 hz2 rfl (by omega) u6 (4 * j) _ (by rfl) (by first | exact (HO.out.row.alloc _).drew | exact HO.out.row.drew.alloc _ | exact HO.out.row.alloc _) ⟨wr.heap.size, 0, none⟩ 4 4 (nv (Sha.be4 x)) (by rfl) (by rfl) (news_many (by first | exact heap_alloc_new _ _ | (rw [drewHeap]; exact heap_alloc_new _ _)) (by simp [nv, Sha.be4, IntKind.wrap_u8'])) (by simp [nv, Value.oneCell']) (by omega) (by simp only [maxLen]; omega) (by omega) (by have := HO.out.below.size; simp; omega) (wr.heap.size + 1) (by simp) ?_
              intro gg cc W2 hown hgr hat hlt6
              have d0 := keepG hgr (by first | exact keepA c0 | exact keepA0 c0) hne1))
          have O2 := Lib.hid hown
          have G2 : Hid ((wr.alloc _).grownBy W2 u6.ownBlock) := Lib.hid (by first | exact hgr | exact grown_of_drew hgr)
          clear hown hgr hat hlt6 d0 c0 hne1
          go_wp2
          go_roundw
          case rel =>
            have R : OB wo ((H.take (j + 1)).flatMap Sha.be4) (4 * j + 4) (.slice (some ⟨gg, 0, none⟩) (4 * j + 4) cc) W2 := HO.out.push _ (Sha.be4 x) O2.out N1.out G2.out
            rw [show 4 * j + 4 = 4 * (j + 1) by omega] at R
            first | exact ⟨j + 1, by omega, by go_num, R⟩ | ((repeat apply Exists.intro); exact ⟨⟨j + 1, by omega, by go_num, R⟩, rfl⟩)
          case measure => simp [intOf]; omega
        · obtain rfl : j = 8 := by omega
          have hfb := flat_bytes H
          have h1 := HO.out
          rw [List.take_of_length_le (by rw [HL8.out]; exact Nat.le_refl _)] at h1
          have hcv := h1.conv (by rw [Sha.flat_length, HL8.out]) (by decide) hfb
          rw [FIN.out] at hcv
          have HBF := Lib.hid (BW.out.trans (h1.below.mono BW.out.size))
          clear h1 HO hfb
          go_wp2
          go_ret
          exact ⟨rfl, HBF.out⟩
end Go.Proofs.YtljgphmdiflphaaDoor
namespace Go.Proofs.YtljgphmdiflphaaDoor
open Go.RowKit Go.Shelf
set_option linter.unusedVariables false

attribute [local go_sem] Oper.semAt_some

theorem and127 (x : Nat) (h : x < 2 ^ 56) : bits .and .u64 (x : Int) 127 % 256 = (x : Int) % 128 := by
  have := u64_and_nat x 127 (by omega) (by omega)
  rw [show ((127 : Nat) : Int) = 127 from rfl] at this
  rw [this, Nat.and_two_pow_sub_one_eq_mod x 7]; omega
theorem or128_u8 (x : Nat) (h : x < 128) : bits .or .u8 (x : Int) 128 = ((x + 128 : Nat) : Int) := by
  have := (bits_nat .u8 8 (by decide) wraps_u8 x 128 (by omega) (by omega)).2
  rw [show ((128 : Nat) : Int) = 128 from rfl] at this
  rw [this, or128 x h]

theorem groups_any (z : Int) (w : World) :
    Calls Tryd.prog 134 #[.int .u64 z] w fun e w' => e = .returned (.func (.func 140) #[] #[.pointer (some ⟨w.heap.size, 0, none⟩)]) ∧ w.alloc (.cells #[.int .u64 z] 145) = w' := by
  go_enter Tryd.func134, Tryd.ntmps134
  go_wp2
  go_ret
  exact ⟨rfl, rfl⟩

/-- what PutInt has done behind some groups -/
structure PutI (w : World) (pre : List (Fin 128 × Bool)) (z : Nat) (W : World) : Prop where
  out : ∃ v, Boxed W w.heap.size 45 v ∧ W.ownsRow w.heap.size 5 1 v pre.length (nv (pre.map gb))
  zb : Boxed W (w.heap.size + 1) 145 (.int .u64 (z : Int))
  bel : Below w.heap.size w W
theorem PutI.drewN {w : World} {pre : List (Fin 128 × Bool)} {z : Nat} {W : World} (h : PutI w pre z W) (n : Nat) : PutI w pre z (W.drewN n) := ⟨h.out, h.zb, ⟨h.bel.os, h.bel.tape, h.bel.output, h.bel.size, h.bel.block⟩⟩
theorem PutI.set {w : World} {pre : List (Fin 128 × Bool)} {z : Nat} {W : World} (h : PutI w pre z W) (z' : Nat) : PutI w pre z' (W.setCell ⟨w.heap.size + 1, 0, none⟩ (.int .u64 (z' : Int))) := by
  obtain ⟨v, hb, hr⟩ := h.out
  refine ⟨⟨v, (setNe (by omega) _ _).trans hb, hr.kept (Go.grownBy_setCell' W _ _) (.inr (h.zb.not_row (by decide) hr).symm)⟩, Boxed.set _ h.zb, h.bel.setCell (by simp) _⟩
theorem PutI.alloc {w : World} {pre : List (Fin 128 × Bool)} {z : Nat} {W : World} (h : PutI w pre z W) (o : Obj) : PutI w pre z (W.alloc o) := by
  obtain ⟨v, hb, hr⟩ := h.out
  exact ⟨⟨v, hb.alloc o, hr.alloc o⟩, h.zb.alloc o, h.bel.alloc (h.bel.size) o⟩
theorem PutI.putObj {w : World} {pre : List (Fin 128 × Bool)} {z : Nat} {W : World} (h : PutI w pre z W) {l : Nat} {o : Obj} (o' : Obj) (hl : w.heap.size + 2 ≤ l) (ho : W.heap[l]? = some o) (hc : o.isCells = false) : PutI w pre z (W.putObj l o') := by
  obtain ⟨v, hb, hr⟩ := h.out
  exact ⟨⟨v, (World.putObj_heap_other (by omega)).trans hb, ownsRow_putObj hr _ ho hc⟩, (World.putObj_heap_other (by omega)).trans h.zb, ⟨h.bel.os, h.bel.tape, h.bel.output, by simpa using h.bel.size, fun k hk => (World.putObj_heap_other (by omega)).trans (h.bel.block k hk)⟩⟩
theorem LoopRec.drewN {b : Nat} {r : Loop} {W : World} (h : LoopRec b r W) (n : Nat) : LoopRec b r (W.drewN n) := h
theorem LoopRec.set {b : Nat} {r : Loop} {W : World} (h : LoopRec b r W) (p : Addr) (hp : p.block < b) (v : Value) : LoopRec b r (W.setCell p v) :=
  ⟨(Below.heap_setCell _ _ _ _ (by omega)).trans h.1, (Below.heap_setCell _ _ _ _ (by omega)).trans h.2⟩

set_option maxRecDepth 100000 in
set_option maxHeartbeats 2000000 in
theorem groups1_in (n : Nat) (hn : 1 ≤ n) (w : World) (l : Nat) (Z : Nat) (hZ : Z < 128 ^ 8) (r : Loop) (b : Nat) (hb : w.heap.size + 2 ≤ b) (W : World) (h0 : PutI w [] Z W) (hr : LoopRec b r W)
    (hY : ∀ pre z x W, pre.length ≤ 10 → PutI w pre z W → LoopRec b r W → YieldAt Fence.wide (n - 1) Tryd.prog l #[.int .u8 (x.1.1 : Int), .bool x.2] W fun e W' => e = .returned (.bool true) ∧ PutI w (pre ++ [x]) z W' ∧ LoopRec b r W') :
    CallsIn Fence.wide n Tryd.prog 140 #[.func (.yield l) #[] #[], .pointer (some ⟨w.heap.size + 1, 0, none⟩)] W fun e W' => (∃ v, e = .returned v) ∧ ∃ xs z, xs = gs Z ∧ PutI w xs z W' ∧ LoopRec b r W' := by
  have H0 := Lib.hid h0
  have HR := Lib.hid hr
  clear h0 hr
  refine callsIn_of_wp Tryd.func140 rfl trivial ?_ rfl
  simp only [Tryd.ntmps140, List.size_toArray, List.length_cons, List.length_nil, Nat.reduceAdd, Nat.reduceSub, Array.replicate_succ, Array.replicate_zero, List.push_toArray, List.append_toArray, List.nil_append, List.cons_append]
  gi_wp2
  gi_loopg [] Z (fun k wr => ∃ pre, k ≤ Z ∧ PutI w pre k wr ∧ LoopRec b r wr ∧ pre ++ gs k = gs Z)
  case atStart => exact ⟨[], Nat.le_refl _, H0.out, HR.out, rfl⟩
  case round =>
    obtain ⟨pre, hkZ, hP, hL, hg⟩ := hrel
    have cz : wr.cell? ⟨w.heap.size + 1, 0, none⟩ = some (.int .u64 (gk : Int)) := hP.zb.cell
    have HP := Lib.hid hP
    have HL := Lib.hid hL
    clear hP hL
    have q1 : 0 ≤ (gk : Int) := by omega
    have q2 : (gk : Int) < 18446744073709551616 := by omega
    have q3 : (gk % 128) < 128 := Nat.mod_lt _ (by decide)
    have q6 : ((gk % 128 : Nat) : Int) = (gk : Int) % 128 := by simp
    have e1 := and127 gk (by omega)
    by_cases hlt : gk < 128
    · have q4 : (gk : Int) < 128 := by omega
      gi_wp2
      try rw [e1]
      obtain ⟨fn, tmps, assign, body, hy, hR⟩ := hY _ gk ⟨⟨gk % 128, q3⟩, true⟩ wr (by have := gs_len Z; rw [← hg, List.length_append] at this; omega) HP.out HL.out
      dsimp only at hy
      rw [q6] at hy
      rw [hy]
      gi_wp2
      refine hR.mono ?_
      rintro e W3 ⟨rfl, hP3, hL3⟩
      gi_wp2
      refine bodyPost_ret (results_none rfl _ _ _) rfl ?_
      exact ⟨⟨_, rfl⟩, _, _, by rw [← hg, gs_lt gk hlt], hP3, hL3⟩
    · have q4 : ¬ (gk : Int) < 128 := by omega
      gi_wp2
      try rw [e1]
      obtain ⟨fn, tmps, assign, body, hy, hR⟩ := hY _ gk ⟨⟨gk % 128, q3⟩, false⟩ wr (by have := gs_len Z; rw [← hg, List.length_append] at this; omega) HP.out HL.out
      dsimp only at hy
      rw [q6] at hy
      rw [hy]
      gi_wp2
      refine hR.mono ?_
      rintro e W3 ⟨rfl, hP3, hL3⟩
      have cz3 : W3.cell? ⟨w.heap.size + 1, 0, none⟩ = some (.int .u64 (gk : Int)) := hP3.zb.cell
      have fz3 : W3.frozen? ⟨w.heap.size + 1, 0, none⟩ = false := hP3.zb.frozen
      have HP3 := Lib.hid hP3
      have HL3 := Lib.hid hL3
      clear hP3 hL3
      gi_wp2
      gi_roundg (gk / 128)
      case measure => omega
      case rel =>
        refine ⟨pre ++ [(⟨gk % 128, q3⟩, false)], by omega, ?_, HL3.out.set _ (by simp; omega) _, by rw [← hg, gs_ge gk hlt (by omega), List.append_assoc]; rfl⟩
        have := HP3.out.set (gk / 128)
        rw [show ((gk / 128 : Nat) : Int) = (gk : Int) / 128 by omega] at this
        exact this
end Go.Proofs.YtljgphmdiflphaaDoor
namespace Go.Proofs.YtljgphmdiflphaaDoor
open Go.RowKit Go.Shelf
set_option linter.unusedVariables false

attribute [local go_sem] Oper.semAt_some

set_option maxRecDepth 100000 in
set_option maxHeartbeats 2000000 in
theorem PutInt_any (k : Nat) (hk : k ≤ 100000) (w : World) :
    Calls Tryd.prog 128 #[.int .i64 (k : Int)] w fun e w' => e = .returned (.tuple #[.string (intS k), .int .i64 0]) ∧ Below w.heap.size w w' := by
  refine callsIn_wide (n := 9) |>.1 ?_
  refine callsIn_of_wp_marks Tryd.func128 rfl trivial ?_ rfl
  refine wpIn_wide.2 ?_
  simp only [Tryd.ntmps128, List.size_toArray, List.length_cons, List.length_nil, Nat.reduceAdd, Nat.reduceSub, Array.replicate_succ, Array.replicate_zero, List.push_toArray, List.append_toArray, List.nil_append, List.cons_append]
  have q1 : ¬ (k : Int) < -4611686018427387903 := by omega
  have q2 : ¬ (k : Int) > 4611686018427387903 := by omega
  have hz : bits BinOp.xor IntKind.u64 ((k : Int) * 2) ((k : Int) / 9223372036854775808) = ((2 * k : Nat) : Int) := by
    have := u64_xor_nat (2 * k) 0 (by omega) (by omega)
    rw [show (k : Int) / 9223372036854775808 = ((0 : Nat) : Int) by omega, show (k : Int) * 2 = ((2 * k : Nat) : Int) by omega, this, Nat.xor_zero]
  have HZ := Lib.hid hz
  clear hz
  go_wp2
  rw [HZ.out]
  obtain ⟨Z, hZ⟩ : ∃ Z, 2 * k = Z := ⟨_, rfl⟩
  have HZ2 := Lib.hid hZ
  rw [hZ]
  have hZb : Z ≤ 200000 := by omega
  clear hZ HZ
  have hP0 : PutI w [] Z ((w.alloc (.cells #[.slice none 0 0] 45)).alloc (.cells #[.int .u64 (Z : Int)] 145)) := by
    refine ⟨⟨_, (Boxed.new w _ _).alloc _, World.ownsRow_nil _ _ _ _⟩, ?_, ((Below.refl _ w).alloc (Nat.le_refl _) _).alloc (by simp) _⟩
    have := Boxed.new (w.alloc (.cells #[.slice none 0 0] 45)) 145 (.int .u64 (Z : Int))
    simpa using this
  obtain ⟨W0, hW0⟩ : ∃ W0, (w.alloc (.cells #[.slice none 0 0] 45)).alloc (.cells #[.int .u64 (Z : Int)] 145) = W0 := ⟨_, rfl⟩
  have hs0 : W0.heap.size = w.heap.size + 2 := by rw [← hW0]; simp
  rw [hW0] at hP0 ⊢
  clear hW0
  refine (wpIn_wide (n := 9)).1 ?_
  refine range_seq rfl (by omega) (gf := 140) (lb := #[.pointer (some ⟨w.heap.size + 1, 0, none⟩)]) rfl trivial (enters_of Tryd.func140 (by kernel_rfl) rfl)
    (encs := fun x : Fin 128 × Bool => #[.int .u8 (x.1.1 : Int), .bool x.2]) (fun x => rfl) (fun pre z W => PutI w pre z W) (fun xs => xs = gs Z) (fun pre => pre.length ≤ 10)
    (fun pre z W l o o' hl ho hc h => h.putObj o' (by omega) ho hc) (fun pre z W o h => h.alloc o) Z hP0
    (fun x t => (((t.setIfInBounds 21 (.int .u8 (x.1.1 : Int))).setIfInBounds 22 (.bool x.2)).setIfInBounds 5 (.int .u8 (x.1.1 : Int))).setIfInBounds 6 (.bool x.2)) ?seq ?assign ?body ?done
  case seq =>
    intro l r W1 h1 hr hl hY
    subst hl
    refine (groups1_in 8 (by omega) w _ Z (by omega) r W0.heap.size (by omega) W1 h1 hr hY).mono ?_
    rintro e W' ⟨h2, xs, z, h3, h4, h5⟩
    exact ⟨h2, xs, z, h3, h4, h5⟩
  case assign =>
    intro l x W K hK
    simp only [List.setIfInBounds_toArray, List.set_cons_zero, List.set_cons_succ] at hK
    gi_wp2
    exact hK
  case body =>
    rintro l pre z ⟨⟨g, hg⟩, last⟩ W hC hP hlt
    simp only [List.setIfInBounds_toArray, List.set_cons_zero, List.set_cons_succ]
    obtain ⟨i0, hi, hz0, hz1, hz2⟩ := info_parts Tryd.infoByte'
    obtain ⟨v, hv, hrow⟩ := hP.out
    have hc := hv.cell
    have HP := Lib.hid hP
    have hB := hP.bel
    clear hP
    cases last with
    | true =>
      gi_wp2_with (gi_at_builtin; refine wpListIn_append_own _ rfl _ _ 45 rfl w.heap.size 5 i0 (.int .u8 0) 1 1 Tryd.underlying45 hi hz0 hz1 hz2 rfl (by decide) v pre.length _ rfl (hrow.alloc _) ⟨W.heap.size, 0, none⟩ 1 1 [.int .u8 (g : Int)] rfl rfl (cell_one_new _ _ _) (by simp [Value.oneCell']) (by simp only [maxLen]; omega) (by omega) (by have := hB.size; simp; omega) ?_; intro v' w1 hown' hgrow _; obtain ⟨g', cap', rfl⟩ := ownsRow_succ hown'; obtain ⟨hv1, hv2, hr2, hk2, hb2⟩ := hv.appended (by decide) hrow hB.size (Nat.le_refl _) hown' hgrow; have hc1 := hv1.cell; have hf1 := hv1.frozen)
      exact ⟨hk2.from _, ⟨_, hv2, by rw [List.length_append, List.length_singleton, List.map_append]; simpa [nv, gb] using hr2⟩, (setNe (by omega) _ _).trans ((HP.out.zb.alloc _).kept hgrow (HP.out.zb.not_row (by decide) hrow)), hB.trans hb2⟩
    | false =>
      gi_wp2_with (gi_at_builtin; refine wpListIn_append_own _ rfl _ _ 45 rfl w.heap.size 5 i0 (.int .u8 0) 1 1 Tryd.underlying45 hi hz0 hz1 hz2 rfl (by decide) v pre.length _ rfl (hrow.alloc _) ⟨W.heap.size, 0, none⟩ 1 1 [.int .u8 ((g + 128 : Nat) : Int)] rfl rfl (news_one (by rw [or128_u8 g hg])) (by simp [Value.oneCell']) (by simp only [maxLen]; omega) (by omega) (by have := hB.size; simp; omega) ?_; intro v' w1 hown' hgrow _; obtain ⟨g', cap', rfl⟩ := ownsRow_succ hown'; obtain ⟨hv1, hv2, hr2, hk2, hb2⟩ := hv.appended (by decide) hrow hB.size (Nat.le_refl _) hown' hgrow; have hc1 := hv1.cell; have hf1 := hv1.frozen)
      exact ⟨hk2.from _, ⟨_, hv2, by rw [List.length_append, List.length_singleton, List.map_append]; simpa [nv, gb] using hr2⟩, (setNe (by omega) _ _).trans ((HP.out.zb.alloc _).kept hgrow (HP.out.zb.not_row (by decide) hrow)), hB.trans hb2⟩
  case done =>
    rintro D xs z W hD rfl hP hK
    obtain ⟨v, hv, hrow⟩ := hP.out
    have hc := hv.cell
    have HO : Hid (OB w ((gs Z).map gb) (gs Z).length v W) := Lib.hid ⟨hrow, hP.bel⟩
    have hcv := HO.out.conv (by simp) (by rw [gs, gsF]; split <;> simp) (fun y hy => by obtain ⟨x, _, rfl⟩ := List.mem_map.1 hy; exact gb_lt x)
    have e : (⟨(((gs Z).map gb).map UInt8.ofNat).toArray⟩ : ByteArray) = intS k := by rw [intS, HZ2.out]; rfl
    rw [e] at hcv
    have HP := Lib.hid hP
    have HD := Lib.hid hD
    have HK := Lib.hid hK
    have HS := Lib.hid hs0
    clear hP hrow hv HO e hD hK hs0 hP0
    go_wp2
    refine ⟨by simp, .inl ⟨_, _, rfl, run_takeDeferred HK.out, ?_⟩⟩
    exact ⟨_, results_tmp2 rfl _ _ _, rfl, HP.out.bel.trans (belowK_b (w := w) (Nat.le_refl _) W D _ _ (by have := HD.out; have := HS.out; omega) HK.out rfl rfl)⟩

set_option maxHeartbeats 1000000 in
theorem PutString_any (s : ByteArray) (hs : s.size ≤ 65536) (w : World) :
    Calls Tryd.prog 114 #[.string s] w fun e w' => e = .returned (.tuple #[.string (putS s), .int .i64 0]) ∧ Below w.heap.size w w' := by
  have PI := Lib.hid (PutInt_any s.size (by omega) w)
  have hb := intS_size s.size
  go_enter Tryd.func114, Tryd.ntmps114
  go_wp2_with (go_at_call 128; refine PI.out.mono ?_; rintro e w' ⟨rfl, hB⟩; have HB := Lib.hid hB; clear hB)
  go_ret2
  exact ⟨rfl, HB.out⟩
end Go.Proofs.YtljgphmdiflphaaDoor
namespace Go.Proofs.YtljgphmdiflphaaDoor
open Go.RowKit Go.Shelf
set_option linter.unusedVariables false

def numZ (z : Nat) : Int := if z % 2 = 0 then ((z / 2 : Nat) : Int) else -((z / 2 : Nat) : Int) - 1
def decGo (s : ByteArray) (p : Nat) : Nat → Nat → Nat → Option (Int × Nat)
  | 0, _, _ => none
  | f + 1, i, z => if h : p + i < s.size then
      if 128 ≤ s[p + i].toNat then decGo s p f (i + 1) (z + s[p + i].toNat % 128 * 128 ^ i)
      else if (s[p + i].toNat = 0 ∧ 0 < i) ∨ numZ (z + s[p + i].toNat % 128 * 128 ^ i) < -4611686018427387903 then none
      else some (numZ (z + s[p + i].toNat % 128 * 128 ^ i), p + i + 1)
    else none
/-- what wire.Int answers behind p -/
def decI (s : ByteArray) (p : Nat) : Option (Int × Nat) := decGo s p 9 0 0
theorem numZ_bounds (z : Nat) (h : z < 128 ^ 9) : -4611686018427387904 ≤ numZ z ∧ numZ z < 4611686018427387904 := by
  unfold numZ; split <;> omega
theorem decGo_bounds (s : ByteArray) (p : Nat) : ∀ f i z v, i + f ≤ 9 → z < 128 ^ i → decGo s p f i z = some v → -4611686018427387903 ≤ v.1 ∧ v.1 < 4611686018427387904 ∧ v.2 ≤ s.size ∧ p < v.2
  | 0, _, _, _, _, _, h => by cases h
  | f + 1, i, z, v, hi, hz, h => by
    rw [decGo] at h
    split at h
    · rename_i hp
      have hz' : z + s[p + i].toNat % 128 * 128 ^ i < 128 ^ (i + 1) := by
        have : s[p + i].toNat % 128 ≤ 127 := by omega
        have h2 : s[p + i].toNat % 128 * 128 ^ i ≤ 127 * 128 ^ i := Nat.mul_le_mul_right _ this
        rw [Nat.pow_succ]; omega
      have hz9 : z + s[p + i].toNat % 128 * 128 ^ i < 128 ^ 9 := Nat.lt_of_lt_of_le hz' (Nat.pow_le_pow_right (by decide) (by omega))
      split at h
      · exact decGo_bounds s p f (i + 1) _ v (by omega) hz' h
      · split at h
        · cases h
        · rename_i hn
          cases h
          have := numZ_bounds _ hz9
          have : ¬ numZ (z + s[p + i].toNat % 128 * 128 ^ i) < -4611686018427387903 := fun h => hn (.inr h)
          dsimp only; omega
    · cases h
theorem or_shift (z c i : Nat) (hi : i ≤ 8) (hz : z < 128 ^ i) (hc : c < 128) : z ||| c * 128 ^ i = z + c * 128 ^ i := by
  have h7 : 128 ^ i = 2 ^ (7 * i) := by rw [Nat.pow_mul]
  rw [h7] at hz ⊢
  have := Nat.two_pow_add_eq_or_of_lt (i := 7 * i) (b := z) hz c
  rw [Nat.or_comm, Nat.mul_comm, ← this]; omega

theorem xor_comm_i64 (a b : Int) : bits .xor .i64 a b = bits .xor .i64 b a := by
  show IntKind.i64.wrap ((BitVec.ofInt 64 a ^^^ BitVec.ofInt 64 b).toNat : Int) = IntKind.i64.wrap ((BitVec.ofInt 64 b ^^^ BitVec.ofInt 64 a).toNat : Int)
  rw [BitVec.xor_comm]
theorem xor_zero_i64 (a : Nat) (h : a < 9223372036854775808) : bits .xor .i64 (a : Int) 0 = (a : Int) := by
  show IntKind.i64.wrap ((BitVec.ofInt 64 (a : Int) ^^^ BitVec.ofInt 64 0).toNat : Int) = _
  rw [BitVec.toNat_xor, show (BitVec.ofInt 64 0).toNat = 0 from rfl, Nat.xor_zero, ofInt_u64 a (by omega), IntKind.wrap_i64]
  omega
theorem numZ_bits (y : Nat) (h : y < 9223372036854775808) : bits .xor .i64 ((y : Int) / 2) (wrap64 (-wrap64 (bits .and .u64 (y : Int) 1))) = numZ y := by
  have e1 : bits .and .u64 (y : Int) 1 = ((y % 2 : Nat) : Int) := by
    have := u64_and_nat y 1 (by omega) (by omega)
    rw [show ((1 : Nat) : Int) = 1 from rfl] at this
    rw [this, Nat.and_one_is_mod]
  have e2 : (y : Int) / 2 = ((y / 2 : Nat) : Int) := by omega
  rw [e1, e2, numZ]
  by_cases h0 : y % 2 = 0
  · rw [if_pos h0, h0, show wrap64 (-wrap64 ((0 : Nat) : Int)) = 0 by unfold wrap64; omega, xor_zero_i64 _ (by omega)]
  · have h1 : y % 2 = 1 := by omega
    rw [if_neg h0, h1, show wrap64 (-wrap64 ((1 : Nat) : Int)) = -1 by unfold wrap64; omega, xor_comm_i64, i64_not _ (by omega)]
    omega
theorem or_wrap (z c i : Nat) (hi : i ≤ 8) (hz : z < 128 ^ i) (hc : c < 128) : bits .or .u64 (z : Int) (IntKind.u64.wrap ((c : Int) * 2 ^ (7 * i))) = ((z + c * 128 ^ i : Nat) : Int) ∧ z + c * 128 ^ i < 128 ^ (i + 1) := by
  have h1 : c * 128 ^ i ≤ 127 * 128 ^ i := Nat.mul_le_mul_right _ (by omega)
  have h2 : 128 ^ i ≤ 128 ^ 8 := Nat.pow_le_pow_right (by decide) hi
  have h3 : (c : Int) * 2 ^ (7 * i) = ((c * 128 ^ i : Nat) : Int) := by
    rw [show (128 : Nat) = 2 ^ 7 from rfl, ← Nat.pow_mul]; push_cast; rfl
  have h4 : IntKind.u64.wrap ((c * 128 ^ i : Nat) : Int) = ((c * 128 ^ i : Nat) : Int) := by rw [IntKind.wrap_u64]; omega
  rw [h3, h4, u64_or_nat _ _ (by omega) (by omega), or_shift z c i hi hz hc]
  exact ⟨rfl, by rw [Nat.pow_succ]; omega⟩

def outI : Option (Int × Nat) → Value
  | some (n, q) => .tuple #[.int .i64 n, .int .i64 (q : Int), .int .i64 0]
  | none => .tuple #[.int .i64 0, .int .i64 0, .int .i64 10]

set_option maxRecDepth 100000 in
set_option maxHeartbeats 2000000 in
theorem Int_any (s : ByteArray) (p : Nat) (hp : p ≤ s.size) (hs : s.size ≤ 100000000) (w : World) :
    Calls Tryd.prog 130 #[.string s, .int .i64 (p : Int)] w fun e w' => e = .returned (outI (decI s p)) ∧ Below w.heap.size w w' := by
  go_enter Tryd.func130, Tryd.ntmps130
  have q1 : ¬ (p : Int) < 0 := by omega
  have q2 : ¬ (p : Int) > (s.size : Int) := by omega
  go_wp2
  go_loopw [7, 19] (fun zv iv wr => ∃ i z : Nat, zv = .int .u64 (z : Int) ∧ iv = .int .i64 (i : Int) ∧ i ≤ 9 ∧ z < 128 ^ i ∧ decI s p = decGo s p (9 - i) i z ∧ Below w.heap.size w wr) (fun _ iv _ => 9 - (intOf iv).toNat)
  case atStart => exact ⟨0, 0, rfl, rfl, by omega, by decide, rfl, Below.refl _ _⟩
  case round =>
    obtain ⟨i, z, rfl, rfl, hi, hz, hd, hb⟩ := hrel
    have HB := Lib.hid hb
    have HD := Lib.hid hd
    have HZ := Lib.hid hz
    clear hb hd hz
    by_cases h9 : i < 9
    · by_cases hpi : p + i < s.size
      · have hzb : z < 128 ^ 9 := Nat.lt_of_lt_of_le HZ.out (Nat.pow_le_pow_right (by decide) (by omega))
        have r1 : (i : Int) < 9 := by omega
        have r2 : (p : Int) + (i : Int) < (s.size : Int) := by omega
        have hx : s[p + i].toNat < 256 := s[p + i].toNat_lt
        by_cases hsp : s[p + i].toNat = 0 ∧ i = 0
        · obtain ⟨hx0, rfl⟩ := hsp
          obtain rfl : z = 0 := by have := HZ.out; simp at this; exact this
          have HD3 : Hid (decI s p = some (0, p + 1)) := Lib.hid (by rw [HD.out, decGo, dif_pos hpi, if_neg (by omega), hx0, if_neg (by simp [numZ])]; rfl)
          have hp0 : p < s.size := by omega
          have t2 : (s[p].toNat : Int) = 0 := by have : s[p + 0].toNat = s[p].toNat := rfl; omega
          have f1 : bits .and .u8 0 127 = 0 := by decide
          have f2 : IntKind.u64.wrap 0 = 0 := by decide
          have f3 : bits .or .u64 0 0 = 0 := by decide
          have f4 : wrap64 0 = 0 := by unfold wrap64; omega
          have f5 : bits .and .u64 0 1 = 0 := by decide
          have f6 : bits .xor .i64 0 0 = 0 := by decide
          clear HD HZ hx0 hx
          go_wp2
          refine bodyPost_ret (results_tmp3 rfl _ _ _) rfl ?_
          exact ⟨by rw [HD3.out]; simp [outI], HB.out⟩
        obtain ⟨c, hc⟩ : ∃ c, c = s[p + i].toNat % 128 := ⟨_, rfl⟩
        have HC := Lib.hid hc
        have hcb : c < 128 := by omega
        have e1 : bits .and .u8 (s[p + i].toNat : Int) 127 = (c : Int) := by
          rw [hc]; have := bits_mask .u8 8 (by decide) wraps_u8 7 (by decide) (s[p + i].toNat : Int) (by omega) (by omega)
          rw [show (2 : Int) ^ 7 - 1 = 127 by decide] at this
          rw [this]; simp
        clear hc
        obtain ⟨y, hy⟩ : ∃ y, y = z + c * 128 ^ i := ⟨_, rfl⟩
        have e2 := (or_wrap z c i (by omega) HZ.out hcb).1
        have hyb := (or_wrap z c i (by omega) HZ.out hcb).2
        rw [← hy] at e2 hyb
        have hy9 : y < 128 ^ 9 := Nat.lt_of_lt_of_le hyb (Nat.pow_le_pow_right (by decide) (by omega))
        have HYB := Lib.hid hyb
        have HD2 : Hid (decI s p = if 128 ≤ s[p + i].toNat then decGo s p (8 - i) (i + 1) y else if (s[p + i].toNat = 0 ∧ 0 < i) ∨ numZ y < -4611686018427387903 then none else some (numZ y, p + i + 1)) := Lib.hid (by
          rw [HD.out, show 9 - i = (8 - i) + 1 by omega, decGo, dif_pos hpi, ← HC.out, ← hy])
        have e3 := numZ_bits y (by omega)
        have hnb := numZ_bounds y hy9
        clear hy hyb HD
        generalize numZ y = N at *
        by_cases hge : 128 ≤ s[p + i].toNat
        · have t1 : ¬ (s[p + i].toNat : Int) < 128 := by omega
          go_wp2
          exact ⟨⟨i + 1, y, rfl, by go_num, by omega, HYB.out, by rw [HD2.out, if_pos hge, show 9 - (i + 1) = 8 - i by omega], HB.out⟩, by simp [intOf]; omega⟩
        · have t1 : (s[p + i].toNat : Int) < 128 := by omega
          have D2 := HD2.out
          rw [if_neg hge] at D2
          clear HD2
          by_cases hbad : (s[p + i].toNat = 0 ∧ 0 < i) ∨ N < -4611686018427387903
          · rw [if_pos hbad] at D2
            have HD3 := Lib.hid D2
            have HBAD := Lib.hid hbad
            clear D2 hbad
            by_cases hx0 : s[p + i].toNat = 0
            · have t2 : (s[p + i].toNat : Int) = 0 := by omega
              by_cases hi0 : 0 < i
              · have t3 : 0 < (i : Int) := by omega
                clear hx0 hi0
                go_wp2
                refine bodyPost_ret (results_tmp3 rfl _ _ _) rfl ?_
                exact ⟨by rw [HD3.out]; rfl, HB.out⟩
              · exact (hsp ⟨hx0, by omega⟩).elim
            · have t2 : ¬ (s[p + i].toNat : Int) = 0 := by omega
              have t4 : N < -4611686018427387903 := HBAD.out.resolve_left (fun h => hx0 h.1)
              clear hx0
              go_wp2
              refine bodyPost_ret (results_tmp3 rfl _ _ _) rfl ?_
              exact ⟨by rw [HD3.out]; rfl, HB.out⟩
          · rw [if_neg hbad] at D2
            have HD3 := Lib.hid D2
            have n1 : ¬ N < -4611686018427387903 := fun h => hbad (.inr h)
            have HBAD := Lib.hid hbad
            clear D2 hbad
            by_cases hx0 : s[p + i].toNat = 0
            · exact (HBAD.out (.inl ⟨hx0, by omega⟩)).elim
            · have t2 : ¬ (s[p + i].toNat : Int) = 0 := by omega
              clear hx0
              go_wp2
              refine bodyPost_ret (results_tmp3 rfl _ _ _) rfl ?_
              exact ⟨by rw [HD3.out]; simp [outI], HB.out⟩
      · have r1 : (i : Int) < 9 := by omega
        have r2 : ¬ (p : Int) + (i : Int) < (s.size : Int) := by omega
        have HD3 : Hid (decI s p = none) := Lib.hid (by rw [HD.out, show 9 - i = (8 - i) + 1 by omega, decGo, dif_neg hpi])
        go_wp2
        refine bodyPost_ret (results_tmp3 rfl _ _ _) rfl ?_
        exact ⟨by rw [HD3.out]; rfl, HB.out⟩
    · obtain rfl : i = 9 := by omega
      have HD3 : Hid (decI s p = none) := Lib.hid (by rw [HD.out]; rfl)
      go_wp2
      refine bodyPost_ret (results_tmp3 rfl _ _ _) rfl ?_
      exact ⟨by rw [HD3.out]; rfl, HB.out⟩

/-- what wire.String answers behind p -/
def decS (s : ByteArray) (p : Nat) : Option (ByteArray × Nat) :=
  match decI s p with
  | some (n, q) => if n < 0 ∨ 65536 < n ∨ (s.size : Int) - (q : Int) < n then none else some (s.extract q (q + n.toNat), q + n.toNat)
  | none => none
def outS : Option (ByteArray × Nat) → Value
  | some (r, q) => .tuple #[.string r, .int .i64 (q : Int), .int .i64 0]
  | none => .tuple #[.string ⟨#[]⟩, .int .i64 0, .int .i64 10]

set_option maxHeartbeats 1000000 in
theorem String_any (s : ByteArray) (p : Nat) (hp : p ≤ s.size) (hs : s.size ≤ 100000000) (w : World) :
    Calls Tryd.prog 122 #[.string s, .int .i64 (p : Int)] w fun e w' => e = .returned (outS (decS s p)) ∧ Below w.heap.size w w' := by
  have PI := Lib.hid (Int_any s p hp hs w)
  rcases hI : decI s p with _ | ⟨n, q⟩
  · have HD : Hid (decS s p = none) := Lib.hid (by rw [decS, hI])
    rw [hI] at PI
    clear hI
    go_enter Tryd.func122, Tryd.ntmps122
    go_wp2_with (go_at_call 130; refine PI.out.mono ?_; unfold outI; rintro e w' ⟨rfl, hB⟩; have HB := Lib.hid hB; clear hB)
    refine bodyPost_ret (results_tmp3 rfl _ _ _) rfl ?_
    exact ⟨by rw [HD.out]; rfl, HB.out⟩
  · obtain ⟨b1, b2, b3, b4⟩ := decGo_bounds s p 9 0 0 _ (by omega) (by decide) hI
    dsimp only at b1 b2 b3 b4
    rw [hI] at PI
    by_cases hbad : n < 0 ∨ 65536 < n ∨ (s.size : Int) - (q : Int) < n
    · have HD : Hid (decS s p = none) := Lib.hid (by rw [decS, hI]; exact if_pos hbad)
      clear hI
      have h1 : ((q : Int)) ≤ (s.size : Int) := by omega
      rcases Classical.em (n < 0) with g1 | g1
      · go_enter Tryd.func122, Tryd.ntmps122
        go_wp2_with (go_at_call 130; refine PI.out.mono ?_; unfold outI; rintro e w' ⟨rfl, hB⟩; have HB := Lib.hid hB; clear hB)
        refine bodyPost_ret (results_tmp3 rfl _ _ _) rfl ?_
        exact ⟨by rw [HD.out]; rfl, HB.out⟩
      · rcases Classical.em (65536 < n) with g2 | g2
        · go_enter Tryd.func122, Tryd.ntmps122
          go_wp2_with (go_at_call 130; refine PI.out.mono ?_; unfold outI; rintro e w' ⟨rfl, hB⟩; have HB := Lib.hid hB; clear hB)
          refine bodyPost_ret (results_tmp3 rfl _ _ _) rfl ?_
          exact ⟨by rw [HD.out]; rfl, HB.out⟩
        · have g3 : (s.size : Int) - (q : Int) < n := (hbad.resolve_left g1).resolve_left g2
          go_enter Tryd.func122, Tryd.ntmps122
          go_wp2_with (go_at_call 130; refine PI.out.mono ?_; unfold outI; rintro e w' ⟨rfl, hB⟩; have HB := Lib.hid hB; clear hB)
          refine bodyPost_ret (results_tmp3 rfl _ _ _) rfl ?_
          exact ⟨by rw [HD.out]; rfl, HB.out⟩
    · have HD : Hid (decS s p = some (s.extract q (q + n.toNat), q + n.toNat)) := Lib.hid (by rw [decS, hI]; exact if_neg hbad)
      clear hI
      obtain ⟨m, hm⟩ := Int.eq_ofNat_of_zero_le (show 0 ≤ n by omega)
      subst hm
      have c1 : (m : Int) ≤ 65536 := by omega
      have c2 : (m : Int) ≤ (s.size : Int) - (q : Int) := by omega
      have c3 : (q : Int) + (m : Int) ≤ (s.size : Int) := by omega
      clear hbad b1 b2
      go_enter Tryd.func122, Tryd.ntmps122
      go_wp2_with (go_at_call 130; refine PI.out.mono ?_; unfold outI; rintro e w' ⟨rfl, hB⟩; have HB := Lib.hid hB; clear hB)
      refine bodyPost_ret (results_tmp3 rfl _ _ _) rfl ?_
      exact ⟨by rw [HD.out]; simp [outS], HB.out⟩
end Go.Proofs.YtljgphmdiflphaaDoor
namespace Go.Proofs.YtljgphmdiflphaaDoor
open Go.RowKit Go.Shelf
set_option linter.unusedVariables false
attribute [local go_sem] Oper.semAt_some

def wayEB (n m : Nat) (t : List ByteArray) (w : Bool) : Option (List (ByteArray × Bool) × List ByteArray × Bool) := Dig.wayE n m t w
/-- what a way that was walked to its end answers -/
def endEB (old root : ByteArray) : Option (List (ByteArray × Bool) × List ByteArray × Bool) → Bool
  | none => false
  | some (ws, r, true) => r.isEmpty && (Dig.first nodeB old ws == old) && (Dig.value nodeB old ws == root)
  | some (ws, [r0], false) => (Dig.first nodeB r0 ws == old) && (Dig.value nodeB r0 ws == root)
  | some (_, _, false) => false
def fineE (old : ByteArray) (m : Int) (root : ByteArray) (n : Int) (P : List ByteArray) : Bool := decide (0 ≤ m) && decide (m ≤ n) && allD P && (old.size == 32) && (root.size == 32)
def verEB (old : ByteArray) (m : Int) (root : ByteArray) (n : Int) (P : List ByteArray) : Bool :=
  fineE old m root n P && (if m = 0 then P.isEmpty && (old == empB) else if m = n then P.isEmpty && (old == root) else endEB old root (wayEB n.toNat m.toNat P.reverse true))

set_option maxRecDepth 100000 in
set_option maxHeartbeats 1000000 in
theorem VE_range (w : World) (old root : ByteArray) (m n : Int) (pv : Value) (h : ¬ (0 ≤ m ∧ m ≤ n)) : Calls Tryd.prog 24 #[.string old, .int .i64 m, .string root, .int .i64 n, pv] w fun e w' => e = .returned (.bool false) ∧ w = w' := by
  refine callsIn_wide (n := 9) |>.1 ?_
  refine callsIn_of_wp_marks Tryd.func24 rfl trivial ?_ rfl
  refine wpIn_wide.2 ?_
  simp only [Tryd.ntmps24, List.size_toArray, List.length_cons, List.length_nil, Nat.reduceAdd, Nat.reduceSub, Array.replicate_succ, Array.replicate_zero, List.push_toArray, List.append_toArray, List.nil_append, List.cons_append]
  by_cases h0 : m < 0
  · have h1 : decide (m < 0) = true := by simpa using h0
    clear h
    go_wp2
    exact ⟨_, results_tmp rfl _ _ _, rfl, rfl⟩
  · have h1 : decide (m < 0) = false := by simpa using h0
    have h2 : n < m := by omega
    have h3 : decide (n < m) = true := by simpa using h2
    clear h
    go_wp2
    exact ⟨_, results_tmp rfl _ _ _, rfl, rfl⟩

set_option maxRecDepth 100000 in
set_option maxHeartbeats 2000000 in
theorem VE_odd (w : World) (old root : ByteArray) (m n : Int) (pv : Value) (P : List ByteArray) (hsl : SL w pv P) (hlen : P.length ≤ 1000000) (hs : ∀ s ∈ P, s.size ≤ 9223372036854775807) (ho : old.size ≤ 9223372036854775807) (hr : root.size ≤ 9223372036854775807)
    (h0' : 0 ≤ m) (h1' : m ≤ n) (hd : (allD P && (old.size == 32) && (root.size == 32)) = false) : Calls Tryd.prog 24 #[.string old, .int .i64 m, .string root, .int .i64 n, pv] w fun e w' => e = .returned (.bool false) ∧ w = w' := by
  have AL := Lib.hid (all_any w pv P hsl (by omega) hs)
  have D1 := Lib.hid (isDigest_any old ho w)
  have D2 := Lib.hid (isDigest_any root hr w)
  clear hsl hs
  refine callsIn_wide (n := 9) |>.1 ?_
  refine callsIn_of_wp_marks Tryd.func24 rfl trivial ?_ rfl
  refine wpIn_wide.2 ?_
  simp only [Tryd.ntmps24, List.size_toArray, List.length_cons, List.length_nil, Nat.reduceAdd, Nat.reduceSub, Array.replicate_succ, Array.replicate_zero, List.push_toArray, List.append_toArray, List.nil_append, List.cons_append]
  have h0 : ¬ m < 0 := by omega
  have h2 : decide (m < 0) = false := by simpa using h0
  have h3 : ¬ n < m := by omega
  have h4 : decide (n < m) = false := by simpa using h3
  cases hA : allD P with
  | false =>
    rw [hA] at AL
    clear hd hA
    go_wp2_with fail
    refine AL.out.mono ?_
    rintro e w' ⟨rfl, rfl⟩
    go_wp2
    exact ⟨_, results_tmp rfl _ _ _, rfl, rfl⟩
  | true =>
    rw [hA] at AL hd
    clear hA
    cases hB : (old.size == 32) with
    | false =>
      rw [hB] at D1
      clear hd hB
      go_wp2_with fail
      refine AL.out.mono ?_
      rintro e w' ⟨rfl, rfl⟩
      go_wp2_with fail
      refine D1.out.mono ?_
      rintro e w' ⟨rfl, rfl⟩
      go_wp2
      exact ⟨_, results_tmp rfl _ _ _, rfl, rfl⟩
    | true =>
      rw [hB] at D1 hd
      clear hB
      have hC : (root.size == 32) = false := by simpa using hd
      rw [hC] at D2
      clear hC hd
      go_wp2_with fail
      refine AL.out.mono ?_
      rintro e w' ⟨rfl, rfl⟩
      go_wp2_with fail
      refine D1.out.mono ?_
      rintro e w' ⟨rfl, rfl⟩
      go_wp2_with fail
      refine D2.out.mono ?_
      rintro e w' ⟨rfl, rfl⟩
      go_wp2
      exact ⟨_, results_tmp rfl _ _ _, rfl, rfl⟩

set_option maxRecDepth 100000 in
set_option maxHeartbeats 2000000 in
theorem VE_zero (w : World) (old root : ByteArray) (pv : Value) (P : List ByteArray) (hsl : SL w pv P) (hlen : P.length ≤ 1000000) (hd : allD P = true) (ho : old.size = 32) (hr : root.size = 32) (n : Int) (hn : 0 ≤ n) (hR : RoundLaid w) :
    Calls Tryd.prog 24 #[.string old, .int .i64 0, .string root, .int .i64 n, pv] w fun e w' => e = .returned (.bool (P.isEmpty && (old == empB))) ∧ Below w.heap.size w w' := by
  have AL := Lib.hid (all_any w pv P hsl (by omega) (fun s h => by have := (allD_iff P).1 hd s h; omega))
  have D1 := Lib.hid (isDigest_any old (by omega) w)
  have D2 := Lib.hid (isDigest_any root (by omega) w)
  rw [hd] at AL
  rw [show (old.size == 32) = true by simpa using ho] at D1
  rw [show (root.size == 32) = true by simpa using hr] at D2
  obtain ⟨a, c, rfl, _, _⟩ := hsl.form
  have SU := Lib.hid (Sum_any ⟨#[]⟩ (by decide) w hR)
  clear hsl hR hd ho hr
  refine callsIn_wide (n := 9) |>.1 ?_
  refine callsIn_of_wp_marks Tryd.func24 rfl trivial ?_ rfl
  refine wpIn_wide.2 ?_
  simp only [Tryd.ntmps24, List.size_toArray, List.length_cons, List.length_nil, Nat.reduceAdd, Nat.reduceSub, Array.replicate_succ, Array.replicate_zero, List.push_toArray, List.append_toArray, List.nil_append, List.cons_append]
  have h3 : ¬ n < 0 := by omega
  have h4 : decide (n < 0) = false := by simpa using h3
  cases P with
  | nil =>
    rw [show ([] : List ByteArray).length = 0 from rfl] at AL ⊢
    go_wp2_with fail
    refine AL.out.mono ?_
    rintro e w' ⟨rfl, rfl⟩
    go_wp2_with fail
    refine D1.out.mono ?_
    rintro e w' ⟨rfl, rfl⟩
    go_wp2_with fail
    refine D2.out.mono ?_
    rintro e w' ⟨rfl, rfl⟩
    go_wp2_with fail
    refine SU.out.mono ?_
    rintro e w' ⟨rfl, hb⟩
    have HB := Lib.hid hb
    clear hb
    go_wp2
    exact ⟨_, results_tmp rfl _ _ _, by rw [show (([] : List ByteArray).isEmpty && (old == empB)) = (old == empB) from rfl, beq_toListBytes]; rfl, HB.out⟩
  | cons x P =>
    have hb0 : (((x :: P).length : Int) == 0) = false := beq_false_of_ne (by simp; omega)
    rw [show ((x :: P).isEmpty && (old == empB)) = false from rfl]
    generalize (x :: P).length = pl at *
    go_wp2_with fail
    refine AL.out.mono ?_
    rintro e w' ⟨rfl, rfl⟩
    go_wp2_with fail
    refine D1.out.mono ?_
    rintro e w' ⟨rfl, rfl⟩
    go_wp2_with fail
    refine D2.out.mono ?_
    rintro e w' ⟨rfl, rfl⟩
    go_wp2
    exact ⟨_, results_tmp rfl _ _ _, rfl, Below.refl _ _⟩

set_option maxRecDepth 100000 in
set_option maxHeartbeats 2000000 in
theorem VE_same (w : World) (old root : ByteArray) (pv : Value) (P : List ByteArray) (hsl : SL w pv P) (hlen : P.length ≤ 1000000) (hd : allD P = true) (ho : old.size = 32) (hr : root.size = 32) (n : Int) (hn : 1 ≤ n) :
    Calls Tryd.prog 24 #[.string old, .int .i64 n, .string root, .int .i64 n, pv] w fun e w' => e = .returned (.bool (P.isEmpty && (old == root))) ∧ Below w.heap.size w w' := by
  have AL := Lib.hid (all_any w pv P hsl (by omega) (fun s h => by have := (allD_iff P).1 hd s h; omega))
  have D1 := Lib.hid (isDigest_any old (by omega) w)
  have D2 := Lib.hid (isDigest_any root (by omega) w)
  rw [hd] at AL
  rw [show (old.size == 32) = true by simpa using ho] at D1
  rw [show (root.size == 32) = true by simpa using hr] at D2
  obtain ⟨a, c, rfl, _, _⟩ := hsl.form
  clear hsl hd ho hr
  refine callsIn_wide (n := 9) |>.1 ?_
  refine callsIn_of_wp_marks Tryd.func24 rfl trivial ?_ rfl
  refine wpIn_wide.2 ?_
  simp only [Tryd.ntmps24, List.size_toArray, List.length_cons, List.length_nil, Nat.reduceAdd, Nat.reduceSub, Array.replicate_succ, Array.replicate_zero, List.push_toArray, List.append_toArray, List.nil_append, List.cons_append]
  have h0 : ¬ n < 0 := by omega
  have h2 : decide (n < 0) = false := by simpa using h0
  have h3 : ¬ n < n := by omega
  have h4 : decide (n < n) = false := decide_eq_false h3
  have h5 : (n == 0) = false := beq_false_of_ne (by omega)
  cases P with
  | nil =>
    rw [show ([] : List ByteArray).length = 0 from rfl] at AL ⊢
    go_wp2_with fail
    refine AL.out.mono ?_
    rintro e w' ⟨rfl, rfl⟩
    go_wp2_with fail
    refine D1.out.mono ?_
    rintro e w' ⟨rfl, rfl⟩
    go_wp2_with fail
    refine D2.out.mono ?_
    rintro e w' ⟨rfl, rfl⟩
    go_wp2
    exact ⟨_, results_tmp rfl _ _ _, by rw [show (([] : List ByteArray).isEmpty && (old == root)) = (old == root) from rfl, beq_toListBytes]; rfl, Below.refl _ _⟩
  | cons x P =>
    have hb0 : (((x :: P).length : Int) == 0) = false := beq_false_of_ne (by simp; omega)
    rw [show ((x :: P).isEmpty && (old == root)) = false from rfl]
    generalize (x :: P).length = pl at *
    go_wp2_with fail
    refine AL.out.mono ?_
    rintro e w' ⟨rfl, rfl⟩
    go_wp2_with fail
    refine D1.out.mono ?_
    rintro e w' ⟨rfl, rfl⟩
    go_wp2_with fail
    refine D2.out.mono ?_
    rintro e w' ⟨rfl, rfl⟩
    go_wp2
    exact ⟨_, results_tmp rfl _ _ _, rfl, Below.refl _ _⟩

end Go.Proofs.YtljgphmdiflphaaDoor
