/- VerifyExtension: on the way. -/
import Derived.Test.YtljgphmdiflphaaDoorVext
namespace Go.Proofs.YtljgphmdiflphaaDoor
open Go.RowKit Go.Shelf
set_option linter.unusedVariables false
attribute [local go_sem] Oper.semAt_some

/-- the older root's sides from the end of a way on -/
def firstF (L : List (ByteArray × Bool)) (pre : List (Fin L.length)) (r : ByteArray) : ByteArray := pre.foldl (fun o x => if L[x].2 then Dig.join nodeB L[x] o else o) r
theorem firstF_snoc (L : List (ByteArray × Bool)) (pre : List (Fin L.length)) (x : Fin L.length) (r : ByteArray) : firstF L (pre ++ [x]) r = if L[x].2 then Dig.join nodeB L[x] (firstF L pre r) else firstF L pre r := by simp [firstF]
theorem firstF_size (L : List (ByteArray × Bool)) (pre : List (Fin L.length)) (r : ByteArray) (hr : r.size = 32) : (firstF L pre r).size = 32 := by
  rcases snoc_cases pre with rfl | ⟨p, x, rfl⟩
  · exact hr
  · rw [firstF_snoc]
    split
    · exact join_size _ _
    · exact firstF_size L p r hr
termination_by pre.length
decreasing_by simp_all
theorem firstF_all (L : List (ByteArray × Bool)) (r : ByteArray) : firstF L (List.finRange L.length).reverse r = Dig.first nodeB r L := by
  unfold firstF Dig.first
  rw [List.foldl_reverse]
  have := List.foldr_map (f := fun x : Fin L.length => L[x]) (g := fun (s : ByteArray × Bool) o => if s.2 then Dig.join nodeB s o else o) (l := List.finRange L.length) (init := r)
  rw [map_finRangeS] at this
  exact this.symm

/-- two boxes and the box of the walked row -/
theorem box3 {w W1 W4 : World} {A C : Obj} (h : ((W1.alloc A).alloc A).alloc C = W4) (hB : Below w.heap.size w W1) : W4.heap[W1.heap.size]? = some A ∧ W4.heap[W1.heap.size + 1]? = some A ∧ W4.heap[W1.heap.size + 2]? = some C ∧ W4.heap.size = W1.heap.size + 3 ∧ (∀ p v, p.block < W1.heap.size → W1.cell? p = some v → W4.cell? p = some v) ∧ Below w.heap.size w W4 := by
  subst h
  refine ⟨?_, ?_, ?_, by simp, ?_, ?_⟩
  · rw [allocOld (by simp; omega), allocOld (by simp)]; exact allocAt _ rfl
  · rw [allocOld (by simp)]; exact allocAt _ (by simp)
  · exact allocAt _ (by simp)
  · intro p v hp hv
    exact ((((Below.refl W1.heap.size W1).alloc (Nat.le_refl _) A).alloc (by simp) A).alloc (by simp; omega) C).cell (p := p) hp |>.trans hv
  · have := hB.size
    exact ((hB.alloc hB.size _).alloc (by simp; omega) _).alloc (by simp; omega) _
theorem box3d {w W1 W4 : World} {A C : Obj} (h : ((W1.alloc A).alloc A).drew.alloc C = W4) (hB : Below w.heap.size w W1) : W4.heap[W1.heap.size]? = some A ∧ W4.heap[W1.heap.size + 1]? = some A ∧ W4.heap[W1.heap.size + 2]? = some C ∧ W4.heap.size = W1.heap.size + 3 ∧ (∀ p v, p.block < W1.heap.size → W1.cell? p = some v → W4.cell? p = some v) ∧ Below w.heap.size w W4 := by
  subst h
  refine ⟨?_, ?_, ?_, by rw [World.size_alloc, drewHeap]; simp, ?_, ?_⟩
  · rw [allocOld (by rw [drewHeap]; simp; omega), drewHeap, allocOld (by simp)]; exact allocAt _ rfl
  · rw [allocOld (by rw [drewHeap]; simp), drewHeap]; exact allocAt _ (by simp)
  · exact allocAt _ (by rw [drewHeap]; simp)
  · intro p v hp hv
    exact ((((Below.refl W1.heap.size W1).alloc (Nat.le_refl _) A).alloc (by simp) A).drew.alloc (by rw [drewHeap]; simp; omega) C).cell (p := p) hp |>.trans hv
  · have := hB.size
    exact (((hB.alloc hB.size _).alloc (by simp; omega) _).drew).alloc (by rw [drewHeap]; simp; omega) _

/-- On the way down. -/
def VeS (w : World) (n m : Nat) (P : List ByteArray) (nn mm : Nat) (wh : Bool) (pv ov : Value) (wr : World) : Prop :=
  ∃ (t : List ByteArray) (acc : List (ByteArray × Bool)), SL w pv t.reverse ∧ wr.ownsRow w.heap.size 75 2 ov acc.length (sidesV acc) ∧ Below w.heap.size w wr ∧
    wayEB n m P.reverse true = (wayEB nn mm t wh).map (fun r => (acc ++ r.1, r.2)) ∧ 1 ≤ mm ∧ mm ≤ nn ∧ nn ≤ n ∧ (∀ x ∈ acc, x.1.size = 32) ∧ (∀ x ∈ t, x.size = 32) ∧ acc.length + t.length = P.length

set_option maxRecDepth 100000 in
set_option maxHeartbeats 8000000 in
theorem VE_main (w : World) (old root : ByteArray) (pv : Value) (P : List ByteArray) (hsl : SL w pv P) (hlen : P.length ≤ 1000000) (hd : allD P = true) (ho : old.size = 32) (hr : root.size = 32) (n m : Nat) (hm : 1 ≤ m) (hmn : m < n) (hn : n ≤ 9223372036854775807) (hR : RoundLaid w) :
    Calls Tryd.prog 24 #[.string old, .int .i64 (m : Int), .string root, .int .i64 (n : Int), pv] w fun e w' => e = .returned (.bool (endEB old root (wayEB n m P.reverse true))) ∧ Below w.heap.size w w' := by
  obtain ⟨i75, hi75, hz75, hy75, hb75⟩ := info_parts Tryd.infoSide
  have hP32 := (allD_iff P).1 hd
  have AL := Lib.hid (all_any w pv P hsl (by omega) (fun s h => by have := (allD_iff P).1 hd s h; omega))
  have D1 := Lib.hid (isDigest_any old (by omega) w)
  have D2 := Lib.hid (isDigest_any root (by omega) w)
  rw [hd] at AL
  rw [show (old.size == 32) = true by simpa using ho] at D1
  rw [show (root.size == 32) = true by simpa using hr] at D2
  have V0 : Hid (VeS w n m P n m true pv (.slice none 0 0) w) := Lib.hid ⟨P.reverse, [], by rw [List.reverse_reverse]; exact hsl, World.ownsRow_nil _ _ _ _, Below.refl _ _, by cases wayEB n m P.reverse true <;> rfl, hm, by omega, Nat.le_refl _, (by intro x hx; cases hx), fun x hx => hP32 x (List.mem_reverse.1 hx), by simp⟩
  have HR := Lib.hid hR
  clear hsl hd hP32 hR
  refine callsIn_wide (n := 9) |>.1 ?_
  refine callsIn_of_wp_marks Tryd.func24 rfl trivial ?_ rfl
  refine wpIn_wide.2 ?_
  simp only [Tryd.ntmps24, List.size_toArray, List.length_cons, List.length_nil, Nat.reduceAdd, Nat.reduceSub, Array.replicate_succ, Array.replicate_zero, List.push_toArray, List.append_toArray, List.nil_append, List.cons_append]
  have h0 : ¬ (m : Int) < 0 := by omega
  have h2 : decide ((m : Int) < 0) = false := decide_eq_false h0
  have h3 : ¬ (n : Int) < (m : Int) := by omega
  have h4 : decide (n < m) = false := decide_eq_false (by omega)
  have h5 : ((m : Int) == 0) = false := beq_false_of_ne (by omega)
  have h6 : ((m : Int) == (n : Int)) = false := beq_false_of_ne (by omega)
  go_wp2_with fail
  refine AL.out.mono ?_
  rintro e w' ⟨rfl, rfl⟩
  go_wp2_with fail
  refine D1.out.mono ?_
  rintro e w' ⟨rfl, rfl⟩
  go_wp2_with fail
  refine D2.out.mono ?_
  rintro e w' ⟨rfl, rfl⟩
  go_wp2
  try rw [h5]
  try rw [h6]
  clear h0 h2 h3 h4 h5 h6 AL D1 D2
  go_loopw [1, 3, 4, 11, 12, 13, 14, 15, 16] (fun mv nv pv ov hv _ _ _ _ wr => ∃ (nn mm : Nat) (wh : Bool), mv = .int .i64 mm ∧ nv = .int .i64 nn ∧ hv = .bool wh ∧ VeS w n m P nn mm wh pv ov wr) (fun _ nv _ _ _ _ _ _ _ _ => (intOf nv).toNat)
  case atStart => exact ⟨n, m, true, rfl, rfl, rfl, V0.out⟩
  case round =>
    clear V0
    obtain ⟨nn, mm, wh, rfl, rfl, rfl, hV⟩ := hrel
    obtain ⟨t, acc, hsl, hown, hbel, hway, hm1, hmm, hnn, ha32, ht32, hln⟩ := hV
    have HOWN := Lib.hid hown
    have HBEL := Lib.hid hbel
    have HWAY := Lib.hid hway
    have HA32 := Lib.hid ha32
    have HT32 := Lib.hid ht32
    have ACL : acc.length ≤ 1000000 := by omega
    have HLN := Lib.hid hln
    clear hown hbel hway ha32 ht32
    by_cases h1' : mm < nn
    · cases t with
      | nil =>
        obtain ⟨a, c, rfl, _, _⟩ := hsl.form
        have EN : Hid (endEB old root (wayEB n m P.reverse true) = false) := Lib.hid (by rw [HWAY.out, wayEB, Dig.wayE_nil _ _ _ h1']; rfl)
        have TN := Lib.hid (take_none a c wr)
        clear hsl hln HLN
        rw [show ([] : List ByteArray).reverse.length = 0 from rfl]
        go_wp2_with fail
        refine TN.out.mono ?_
        rintro e w' ⟨rfl, rfl⟩
        go_wp2
        exact ⟨_, results_tmp rfl _ _ _, by rw [EN.out]; rfl, HBEL.out⟩
      | cons x t =>
        obtain ⟨b, off, c, rfl, hc, hb, hcs⟩ := hsl.out (by simp)
        obtain ⟨q, hq⟩ : ∃ q, t.length = q := ⟨_, rfl⟩
        have hl1 : (x :: t).reverse.length = q + 1 := by simp [hq]
        rw [hl1] at hc ⊢
        have hcx : wr.cell? ⟨b, off + q, none⟩ = some (.string x) := (HBEL.out.cell (p := ⟨b, off + q, none⟩) hb).trans (hcs q x (by rw [List.reverse_cons, ← hq]; simp))
        have SLT : Hid (SL w (.slice (some ⟨b, off, none⟩) q c) t.reverse) := Lib.hid (SL.mk' (by simp [hq]) (by omega) hb (fun j y hj => hcs j y (by
          rw [List.reverse_cons, List.getElem?_append_left (by have := (List.getElem?_eq_some_iff.1 hj).1; exact this)]; exact hj)))
        have hqb : q ≤ 1000000 := by simp only [List.length_cons] at hln; omega
        have TS := Lib.hid (take_some b off q c x wr (by omega) hc hcx)
        have hx32 := HT32.out x (by simp)
        obtain ⟨k, hk⟩ : ∃ k, Dig.lft nn = k := ⟨_, rfl⟩
        have hk1 := Dig.lft_lt (n := nn) (by omega)
        have hk0 := Dig.lft_pos nn
        rw [hk] at hk1 hk0
        have LE := Lib.hid (left_any nn (by omega) (by omega))
        rw [hk] at LE
        have WC := Lib.hid (Dig.wayE_cons nn mm x t wh (by omega) (by omega))
        rw [hk] at WC
        clear hsl hcs hl1 hq hk hcx hln
        go_wp2_with fail
        refine TS.out.mono ?_
        rintro e w' ⟨rfl, nq, rfl⟩
        have OW : Hid ((wr.drewN nq).ownsRow w.heap.size 75 2 u11 acc.length (sidesV acc)) := HOWN
        have BW : Hid (Below w.heap.size w (wr.drewN nq)) := Lib.hid ⟨HBEL.out.os, HBEL.out.tape, HBEL.out.output, HBEL.out.size, HBEL.out.block⟩
        clear HOWN HBEL TS
        generalize wr.drewN nq = W2 at *
        go_wp2_with fail
        refine (LE.out _).mono ?_
        rintro e w' ⟨rfl, rfl⟩
        have hz2 := BW.out.size
        by_cases hik : mm ≤ k
        · have g0 : ¬ (k : Int) < (mm : Int) := by omega
          have g1 : decide (k < mm) = false := decide_eq_false (by omega)
          go_wp2_with (at_builtin; refine wpList_append_own _ rfl (.tmp 81) (.tmp 87) 71 rfl w.heap.size 75 i75 _ 2 24 Tryd.underlying71 hi75 hz75 hy75 hb75 rfl (by decide) _ _ _ rfl (OW.out.alloc _) ⟨W2.heap.size, 0, none⟩ 1 1 [.string x, .bool false] rfl rfl (World.news_of_block (cs := #[.string x, .bool false]) (t := 75) (fr := (0, 0)) (heap_alloc_new _ _)) (by simp [Value.oneCell']) (by simp only [maxLen]; omega) (by omega) (by simp; omega) ?_; intro v3 W4 hown hgr _; have O4 := Lib.hid hown; have G4 := Lib.hid hgr; clear hown hgr)
          go_roundw
          case rel =>
            have R : VeS w n m P k mm wh (.slice (some ⟨b, off, none⟩) q c) v3 W4 := ⟨t, acc ++ [(x, false)], SLT.out, by rw [List.length_append]; simpa [sidesV, sideV] using O4.out, (BW.out.alloc BW.out.size _).grown G4.out (by simp; omega) (fun k e => (OW.out.lt k e).1), by
              rw [HWAY.out, wayEB, WC.out, if_pos hik, Option.map_map]
              unfold wayEB
              congr 1
              funext r
              simp, hm1, hik, by omega, (fun y hy => by
                rcases List.mem_append.1 hy with hy | hy
                · exact HA32.out y hy
                · obtain rfl := List.mem_singleton.1 hy; exact hx32), fun y hy => HT32.out y (by simp [hy]), by have := HLN.out; simp at this ⊢; omega⟩
            first | exact ⟨_, _, _, rfl, rfl, rfl, R⟩ | ((repeat apply Exists.intro); exact ⟨⟨_, _, _, rfl, rfl, rfl, R⟩, rfl⟩)
          case measure => simp [intOf]; omega
        · have g0 : (k : Int) < (mm : Int) := by omega
          have g1 : decide (k < mm) = true := decide_eq_true (by omega)
          go_wp2_with (at_builtin; refine wpList_append_own _ rfl (.tmp 81) (.tmp 87) 71 rfl w.heap.size 75 i75 _ 2 24 Tryd.underlying71 hi75 hz75 hy75 hb75 rfl (by decide) _ _ _ rfl (OW.out.alloc _) ⟨W2.heap.size, 0, none⟩ 1 1 [.string x, .bool true] rfl rfl (World.news_of_block (cs := #[.string x, .bool true]) (t := 75) (fr := (0, 0)) (heap_alloc_new _ _)) (by simp [Value.oneCell']) (by simp only [maxLen]; omega) (by omega) (by simp; omega) ?_; intro v3 W4 hown hgr _; have O4 := Lib.hid hown; have G4 := Lib.hid hgr; clear hown hgr)
          go_roundw
          case rel =>
            have R : VeS w n m P (nn - k) (mm - k) false (.slice (some ⟨b, off, none⟩) q c) v3 W4 := ⟨t, acc ++ [(x, true)], SLT.out, by rw [List.length_append]; simpa [sidesV, sideV] using O4.out, (BW.out.alloc BW.out.size _).grown G4.out (by simp; omega) (fun k e => (OW.out.lt k e).1), by
              rw [HWAY.out, wayEB, WC.out, if_neg hik, Option.map_map]
              unfold wayEB
              congr 1
              funext r
              simp, by omega, by omega, by omega, (fun y hy => by
                rcases List.mem_append.1 hy with hy | hy
                · exact HA32.out y hy
                · obtain rfl := List.mem_singleton.1 hy; exact hx32), fun y hy => HT32.out y (by simp [hy]), by have := HLN.out; simp at this ⊢; omega⟩
            have e1 : (nn : Int) - (k : Int) = ((nn - k : Nat) : Int) := by omega
            have e2 : (mm : Int) - (k : Int) = ((mm - k : Nat) : Int) := by omega
            rw [e1, e2]
            first | exact ⟨_, _, _, rfl, rfl, rfl, R⟩ | ((repeat apply Exists.intro); exact ⟨⟨_, _, _, rfl, rfl, rfl, R⟩, rfl⟩)
          case measure => simp [intOf]; omega
    · have EE : Hid (wayEB n m P.reverse true = some (acc, t, wh)) := Lib.hid (by rw [HWAY.out, wayEB, Dig.wayE_end _ _ _ _ (by omega)]; simp)
      have hw0 : 0 < w.heap.size := ltOf HR.out.choose_spec
      have hpl : t.reverse.length = t.length := List.length_reverse
      have htl : t.length ≤ 1000000 := by omega
      have hq0 : (nn : Int) ≤ mm := by omega
      have hq1 : decide (mm < nn) = false := decide_eq_false h1'
      have BW1 := HBEL
      have hz1 := BW1.out.size
      obtain ⟨ga, gc, g, hu, hga, hgl, hg0, hgc⟩ := sides_form HOWN.out (by omega)
      subst hu
      have HGC := Lib.hid hgc
      have HGA := Lib.hid hga
      clear HOWN HBEL hgc hga hln HLN HWAY
      generalize wr = W1 at *
      cases wh with
      | true =>
        obtain ⟨pa, pc, hpv, _, _⟩ := hsl.form
        rw [hpl] at hpv
        subst hpv
        clear hsl hpl h1'
        go_wp2_with fail
        refine (BackS_any _ rfl _).mono ?_
        rintro e W4 ⟨rfl, hW4⟩
        obtain ⟨hBo, hBp, hBs, hsz, hcell, hB4⟩ := box3 hW4 BW1.out
        have hR0 : (old).size = 32 := by assumption
        have hcs4 : ∀ j u, (sidesV acc)[j]? = some u → W4.cell? ⟨g, 0 + j, none⟩ = some u := fun j u hj => hcell ⟨g, 0 + j, none⟩ u hgl (HGC.out j u hj)
        have hR4 : RoundLaid W4 := HR.out.below hB4
        have HBo := Lib.hid hBo
        have HBp := Lib.hid hBp
        have HBs := Lib.hid hBs
        have HB4 := Lib.hid hB4
        have HSZ := Lib.hid hsz
        have HCS4 := Lib.hid hcs4
        have HR4 := Lib.hid hR4
        clear hW4 hBo hBp hBs hB4 hsz hcs4 hR4 HGC hcell
        go_wp2
        refine (wpIn_wide (n := 9)).1 ?_
        refine rangeH rfl (by omega) (gf := 88) (lb := #[.pointer (some ⟨W1.heap.size + 2, 0, none⟩)]) rfl trivial (enters_of Tryd.func88 (by kernel_rfl) rfl)
          (backS_stops 8 (by omega) (W1.heap.size + 2) g 0 gc acc (by omega) W4 _ _ ga (fun h => (HGA.out h).1) HBs.out (fun _ => by have := HSZ.out; omega) HCS4.out) KeepT.trans (KeepT.putObj (by have := HSZ.out; intro k hk; omega)) (Below.refl _ _) (fun _ => rfl)
          (fun (pre : List (Fin acc.length)) W => W.heap[W1.heap.size]? = some (.cells #[.string (firstF acc pre old)] 9 (0, 0)) ∧ W.heap[W1.heap.size + 1]? = some (.cells #[.string (joinF acc pre old)] 9 (0, 0)) ∧ Upd (fun k => k = W1.heap.size ∨ k = W1.heap.size + 1) W4 W)
          (fun _ _ _ => False)
          (OwnFrom.and (ownFrom_at W1.heap.size (fun pre => .cells #[.string (firstF acc pre old)] 9 (0, 0)) (by have := HSZ.out; omega)) (OwnFrom.and (ownFrom_at (W1.heap.size + 1) (fun pre => .cells #[.string (joinF acc pre old)] 9 (0, 0)) (by have := HSZ.out; omega)) (ownFrom_upd (Nat.le_refl _))))
          (fun _ _ _ _ _ hs _ _ => hs)
          ⟨HBo.out, HBp.out, Upd.refl _ _⟩
          (fun x => .cells #[.string acc[x].1, .bool acc[x].2] 75 (0, 0)) (fun _ => rfl)
          (fun x Bx T => ((T.setIfInBounds 114 (.int .i64 (x.1 : Int))).setIfInBounds 115 (sideA acc[x])).setIfInBounds 20 (.pointer (some ⟨Bx, 0, none⟩))) ?assign (fun _ _ h => h.2.2.size) ?body ?done ?stop
        case assign =>
          intro l pre x W K hsW hI hK
          have HI := Lib.hid hI
          have HK := Lib.hid hK
          clear hI hK
          unfold sideA at HK ⊢
          generalize acc[x] = ax at *
          obtain ⟨a1, a2⟩ := ax
          dsimp only at *
          gi_wp2
          have hk := HK.out W.heap.size (W.alloc (.cells #[.string a1, .bool a2] 75)) hsW
          simp only [List.setIfInBounds_toArray, List.set_cons_zero, List.set_cons_succ] at hk
          have hU : Upd (fun _ => False) W (W.alloc (.cells #[.string a1, .bool a2] 75)) := (Upd.refl _ W).alloc _
          exact hk (keepsFrom_of_upd hU (fun _ h => h.elim)) (KeepT.of_upd hU (fun k hk => ⟨by have := HSZ.out; omega, fun h => h⟩)) ⟨by rw [allocOld (ltOf HI.out.1)]; exact HI.out.1, by rw [allocOld (ltOf HI.out.2.1)]; exact HI.out.2.1, HI.out.2.2.alloc _⟩ (allocAt _ rfl)
        case body =>
          rintro l pre x Bx W hbx hobx ⟨hh, hj, hU⟩ hlt
          have HX := Lib.hid hobx
          have HH := Lib.hid hh
          have HJ := Lib.hid hj
          have HU := Lib.hid hU
          have hbne : W1.heap.size + 1 < Bx := by have := HSZ.out; omega
          have hcc : W.cell? ⟨W1.heap.size, 0, none⟩ = some (.string (firstF acc pre old)) := by rw [cellOf hh]; rfl
          have hcj : W.cell? ⟨W1.heap.size + 1, 0, none⟩ = some (.string (joinF acc pre old)) := by rw [cellOf hj]; rfl
          have hx1 : W.cell? ⟨Bx, 0, none⟩ = some (.string acc[x].1) := by rw [cellOf hobx]; rfl
          have hx2 : W.cell? ⟨Bx, 1, none⟩ = some (.bool acc[x].2) := by rw [cellOf hobx]; rfl
          clear hh hj hU hobx
          have hbs := joinF_size acc pre old hR0
          have hbf := firstF_size acc pre old hR0
          have hx32 := HA32.out acc[x] (List.getElem_mem x.2)
          have JN := Lib.hid (fun W (h : RoundLaid W) => join_any acc[x].1 (joinF acc pre old) acc[x].2 (by omega) W h)
          have JF := Lib.hid (fun W (h : RoundLaid W) => join_any acc[x].1 (firstF acc pre old) acc[x].2 (by omega) W h)
          have HSN := Lib.hid (joinF_snoc acc pre x old)
          have HSF := Lib.hid (firstF_snoc acc pre x old)
          have HRW := Lib.hid (HR4.out.upd HU.out (by omega))
          simp only [List.setIfInBounds_toArray, List.set_cons_zero, List.set_cons_succ]
          unfold sideA
          generalize joinF acc pre old = o1 at *
          generalize firstF acc pre old = f1 at *
          generalize acc[x] = ax at *
          obtain ⟨a1, a2⟩ := ax
          dsimp only at *
          cases a2 with
          | false =>
            gi_wp2
            refine ⟨trivial, ?_⟩
            refine (CallsIn.inRound l (callsIn_wide.2 (JN.out W HRW.out))).mono ?_
            rintro e W' ⟨rfl, h2⟩
            have hh2 : W'.heap[W1.heap.size]? = some (.cells #[.string f1] 9 (0, 0)) := by rw [h2.block _ (ltOf HH.out)]; exact HH.out
            have hj2 : W'.heap[W1.heap.size + 1]? = some (.cells #[.string o1] 9 (0, 0)) := by rw [h2.block _ (ltOf HJ.out)]; exact HJ.out
            have cc2 : W'.cell? ⟨W1.heap.size + 1, 0, none⟩ = some (.string o1) := by rw [cellOf hj2]; rfl
            have ff2 : W'.frozen? ⟨W1.heap.size + 1, 0, none⟩ = false := frozenOf hj2 0
            have H2 := Lib.hid h2
            have HH2 := Lib.hid hh2
            have HJ2 := Lib.hid hj2
            clear h2 hh2 hj2
            obtain ⟨o2, ho2⟩ : ∃ o2, (if (false = true) then nodeB a1 o1 else nodeB o1 a1) = o2 := ⟨_, rfl⟩
            rw [ho2]
            have HO2 := Lib.hid ho2
            clear ho2
            gi_wp2
            have hU3 : Upd (fun k => k = W1.heap.size ∨ k = W1.heap.size + 1) W (W'.setCell ⟨W1.heap.size + 1, 0, none⟩ (.string o2)) := (Upd.of_below H2.out).setCell _ _ (.inl (.inr rfl))
            exact ⟨keepsFrom_of_upd hU3 (fun k hk => by have hk' : k = W1.heap.size ∨ k = W1.heap.size + 1 := hk; have := HSZ.out; omega), KeepT.of_upd hU3 (fun k hk => ⟨by have := HU.out.size; have := HSZ.out; omega, fun e => by have hk' : k = W1.heap.size ∨ k = W1.heap.size + 1 := e; omega⟩), by rw [setNe (by omega), HSF.out]; exact HH2.out, by rw [setOf_ HJ2.out 0 _, HSN.out, ← HO2.out]; rfl, HU.out.trans hU3 (fun _ _ h => h)⟩
          | true =>
            gi_wp2
            refine ⟨trivial, ?_⟩
            refine (CallsIn.inRound l (callsIn_wide.2 (JF.out W HRW.out))).mono ?_
            rintro e W' ⟨rfl, h2⟩
            have hh2 : W'.heap[W1.heap.size]? = some (.cells #[.string f1] 9 (0, 0)) := by rw [h2.block _ (ltOf HH.out)]; exact HH.out
            have cc2 : W'.cell? ⟨W1.heap.size, 0, none⟩ = some (.string f1) := by rw [cellOf hh2]; rfl
            have ff2 : W'.frozen? ⟨W1.heap.size, 0, none⟩ = false := frozenOf hh2 0
            have H2 := Lib.hid h2
            have HH2 := Lib.hid hh2
            clear h2 hh2
            obtain ⟨f2, hf2⟩ : ∃ f2, nodeB a1 f1 = f2 := ⟨_, rfl⟩
            rw [if_pos trivial, hf2]
            have HF2 := Lib.hid hf2
            clear hf2
            have hU2 : Upd (fun k => k = W1.heap.size) W (W'.setCell ⟨W1.heap.size, 0, none⟩ (.string f2)) := (Upd.of_below H2.out).setCell _ _ (.inl rfl)
            have hf : (W'.setCell ⟨W1.heap.size, 0, none⟩ (.string f2)).heap[W1.heap.size]? = some (.cells #[.string f2] 9 (0, 0)) := by rw [setOf_ HH2.out 0 _]; rfl
            have hjx := hU2.at HJ.out (by omega)
            have hxx := hU2.at HX.out (by omega)
            have hrx : RoundLaid (W'.setCell ⟨W1.heap.size, 0, none⟩ (.string f2)) := HRW.out.upd hU2 (by omega)
            have U2 := Lib.hid hU2
            have F2 := Lib.hid hf
            have J2 := Lib.hid hjx
            have X2 := Lib.hid hxx
            have R2 := Lib.hid hrx
            have d1 : (W'.setCell ⟨W1.heap.size, 0, none⟩ (.string f2)).cell? ⟨W1.heap.size + 1, 0, none⟩ = some (.string o1) := by rw [cellOf hjx]; rfl
            have d2 : (W'.setCell ⟨W1.heap.size, 0, none⟩ (.string f2)).cell? ⟨Bx, 0, none⟩ = some (.string a1) := by rw [cellOf hxx]; rfl
            have d3 : (W'.setCell ⟨W1.heap.size, 0, none⟩ (.string f2)).cell? ⟨Bx, 1, none⟩ = some (.bool true) := by rw [cellOf hxx]; rfl
            clear hU2 hf hjx hxx hrx hcc hcj hx1 hx2
            gi_wp2
            refine ⟨trivial, ?_⟩
            refine (CallsIn.inRound l (callsIn_wide.2 (JN.out _ R2.out))).mono ?_
            rintro e W'' ⟨rfl, h2⟩
            clear d1 d2 d3 JN JF
            have hF3 : W''.heap[W1.heap.size]? = some (.cells #[.string f2] 9 (0, 0)) := by rw [h2.block _ (ltOf F2.out)]; exact F2.out
            have hJ3 : W''.heap[W1.heap.size + 1]? = some (.cells #[.string o1] 9 (0, 0)) := by rw [h2.block _ (ltOf J2.out)]; exact J2.out
            have cc3 : W''.cell? ⟨W1.heap.size + 1, 0, none⟩ = some (.string o1) := by rw [cellOf hJ3]; rfl
            have ff3 : W''.frozen? ⟨W1.heap.size + 1, 0, none⟩ = false := frozenOf hJ3 0
            have H3 := Lib.hid h2
            have F3 := Lib.hid hF3
            have J3 := Lib.hid hJ3
            clear h2 hF3 hJ3 cc2 ff2
            obtain ⟨o2, ho2⟩ : ∃ o2, nodeB a1 o1 = o2 := ⟨_, rfl⟩
            rw [if_pos trivial, ho2]
            have HO2 := Lib.hid ho2
            clear ho2
            gi_wp2
            have hU3 : Upd (fun k => k = W1.heap.size ∨ k = W1.heap.size + 1) W (W''.setCell ⟨W1.heap.size + 1, 0, none⟩ (.string o2)) := ((U2.out.mono (fun _ _ h => .inl h)).trans (Upd.of_below (S := fun _ => False) H3.out) (fun _ _ h => h.elim)).setCell _ _ (.inl (.inr rfl))
            exact ⟨keepsFrom_of_upd hU3 (fun k hk => by have hk' : k = W1.heap.size ∨ k = W1.heap.size + 1 := hk; have := HSZ.out; omega), KeepT.of_upd hU3 (fun k hk => ⟨by have := HU.out.size; have := HSZ.out; omega, fun e => by have hk' : k = W1.heap.size ∨ k = W1.heap.size + 1 := e; omega⟩), by rw [setNe (by omega), HSF.out, if_pos trivial]; have := F3.out; rw [← HF2.out] at this; exact this, by rw [setOf_ J3.out 0 _, HSN.out, ← HO2.out]; rfl, HU.out.trans hU3 (fun _ _ h => h)⟩
        case done =>
          rintro D ys W hD rfl ⟨hh, hj, hU⟩ hK
          have hcc : W.cell? ⟨W1.heap.size, 0, none⟩ = some (.string (Dig.first nodeB old acc)) := by rw [cellOf hh, firstF_all]; rfl
          have hcj : W.cell? ⟨W1.heap.size + 1, 0, none⟩ = some (.string (Dig.value nodeB old acc)) := by rw [cellOf hj, joinF_all]; rfl
          have HU := Lib.hid hU
          have HK := Lib.hid hK
          clear hh hj hU hK
          obtain ⟨fv, hfv⟩ : ∃ fv, Dig.first nodeB old acc = fv := ⟨_, rfl⟩
          obtain ⟨vv, hvv⟩ : ∃ vv, Dig.value nodeB old acc = vv := ⟨_, rfl⟩
          rw [hfv] at hcc
          rw [hvv] at hcj
          have HFV := Lib.hid hfv
          have HVV := Lib.hid hvv
          clear hfv hvv
          have hW : Below w.heap.size w W := HB4.out.trans (HU.out.below' (by have := HSZ.out; omega) (by intro i hi h; have h' : i = W1.heap.size ∨ i = W1.heap.size + 1 := h; omega))
          have hF := hW.trans (belowK_b (w := w) (Nat.le_refl _) W D (.deferred (some [])) (.deferred none) (by have := HSZ.out; omega) HK.out rfl rfl)
          have HF := Lib.hid hF
          clear hW hF
          cases t with
          | nil =>
            rw [show ([] : List ByteArray).length = 0 from rfl]
            have EV : Hid (endEB old root (wayEB n m P.reverse true) = ((fv.toList == old.toList) && (vv.toList == root.toList))) := Lib.hid (by rw [EE.out, ← beq_toListBytes, ← beq_toListBytes, ← HFV.out, ← HVV.out]; rfl)
            cases e1 : (fv.toList == old.toList) with
            | false =>
              rw [e1] at EV
              go_wp2
              refine ⟨by simp, .inl ⟨_, _, rfl, run_takeDeferred HK.out, ?_⟩⟩
              exact ⟨_, results_tmp rfl _ _ _, by rw [EV.out]; rfl, HF.out⟩
            | true =>
              rw [e1] at EV
              go_wp2
              refine ⟨by simp, .inl ⟨_, _, rfl, run_takeDeferred HK.out, ?_⟩⟩
              exact ⟨_, results_tmp rfl _ _ _, by rw [EV.out]; rfl, HF.out⟩
          | cons y t =>
            have EV : Hid (endEB old root (wayEB n m P.reverse true) = false) := Lib.hid (by rw [EE.out]; rfl)
            have hb0 : (((y :: t).length : Int) == 0) = false := beq_false_of_ne (by simp; omega)
            generalize (y :: t).length = tl at *
            go_wp2
            refine ⟨by simp, .inl ⟨_, _, rfl, run_takeDeferred HK.out, ?_⟩⟩
            exact ⟨_, results_tmp rfl _ _ _, by rw [EV.out]; rfl, HF.out⟩
        case stop =>
          rintro D c pre W _ _ h _
          exact h.elim
      | false =>
        match t, htl, EE, HT32, hsl, hpl with
        | [], htl, EE, HT32, hsl, hpl =>
          obtain ⟨pa, pc, hpv, _, _⟩ := hsl.form
          have EN : Hid (endEB old root (wayEB n m P.reverse true) = false) := Lib.hid (by rw [EE.out]; rfl)
          subst hpv
          clear hsl hpl h1'
          rw [show ([] : List ByteArray).reverse.length = 0 from rfl]
          go_wp2
          exact ⟨_, results_tmp rfl _ _ _, by rw [EN.out]; rfl, (BW1.out.alloc BW1.out.size _).alloc (by simp; omega) _⟩
        | r0 :: r1 :: t, htl, EE, HT32, hsl, hpl =>
          obtain ⟨pa, pc, hpv, _, _⟩ := hsl.form
          have EN : Hid (endEB old root (wayEB n m P.reverse true) = false) := Lib.hid (by rw [EE.out]; rfl)
          have hb0 : (((r0 :: r1 :: t).length : Int) == 1) = false := beq_false_of_ne (by simp; omega)
          rw [hpl] at hpv
          subst hpv
          clear hsl hpl h1'
          generalize (r0 :: r1 :: t).length = tl at *
          go_wp2
          exact ⟨_, results_tmp rfl _ _ _, by rw [EN.out]; rfl, (BW1.out.alloc BW1.out.size _).alloc (by simp; omega) _⟩
        | [r0], htl, EE, HT32, hsl, hpl =>
          obtain ⟨b, off, c, rfl, hc, hb, hcs⟩ := hsl.out (by simp)
          have hc0 : W1.cell? ⟨b, off, none⟩ = some (.string r0) := (BW1.out.cell (p := ⟨b, off, none⟩) hb).trans (by have := hcs 0 r0 rfl; rwa [Nat.add_zero] at this)
          have hbl : b < W1.heap.size := by omega
          have hr0 := HT32.out r0 (by simp)
          rw [show ([r0] : List ByteArray).reverse.length = 1 from rfl] at hc ⊢
          clear hsl hpl h1' hcs
          go_wp2
          go_region_held3 (fun w' => w'.cell? ⟨b, off, none⟩ = some (.string r0)) ((first | exact hc0 | go_keep)) (fail)
          go_wp2_with fail
          refine (BackS_any _ rfl _).mono ?_
          rintro e W4 ⟨rfl, hW4⟩
          obtain ⟨hBo, hBp, hBs, hsz, hcell, hB4⟩ := box3d hW4 BW1.out
          have hR0 : (r0).size = 32 := by assumption
          have hcs4 : ∀ j u, (sidesV acc)[j]? = some u → W4.cell? ⟨g, 0 + j, none⟩ = some u := fun j u hj => hcell ⟨g, 0 + j, none⟩ u hgl (HGC.out j u hj)
          have hR4 : RoundLaid W4 := HR.out.below hB4
          have HBo := Lib.hid hBo
          have HBp := Lib.hid hBp
          have HBs := Lib.hid hBs
          have HB4 := Lib.hid hB4
          have HSZ := Lib.hid hsz
          have HCS4 := Lib.hid hcs4
          have HR4 := Lib.hid hR4
          clear hW4 hBo hBp hBs hB4 hsz hcs4 hR4 HGC hcell
          go_wp2
          refine (wpIn_wide (n := 9)).1 ?_
          refine rangeH rfl (by omega) (gf := 88) (lb := #[.pointer (some ⟨W1.heap.size + 2, 0, none⟩)]) rfl trivial (enters_of Tryd.func88 (by kernel_rfl) rfl)
            (backS_stops 8 (by omega) (W1.heap.size + 2) g 0 gc acc (by omega) W4 _ _ ga (fun h => (HGA.out h).1) HBs.out (fun _ => by have := HSZ.out; omega) HCS4.out) KeepT.trans (KeepT.putObj (by have := HSZ.out; intro k hk; omega)) (Below.refl _ _) (fun _ => rfl)
            (fun (pre : List (Fin acc.length)) W => W.heap[W1.heap.size]? = some (.cells #[.string (firstF acc pre r0)] 9 (0, 0)) ∧ W.heap[W1.heap.size + 1]? = some (.cells #[.string (joinF acc pre r0)] 9 (0, 0)) ∧ Upd (fun k => k = W1.heap.size ∨ k = W1.heap.size + 1) W4 W)
            (fun _ _ _ => False)
            (OwnFrom.and (ownFrom_at W1.heap.size (fun pre => .cells #[.string (firstF acc pre r0)] 9 (0, 0)) (by have := HSZ.out; omega)) (OwnFrom.and (ownFrom_at (W1.heap.size + 1) (fun pre => .cells #[.string (joinF acc pre r0)] 9 (0, 0)) (by have := HSZ.out; omega)) (ownFrom_upd (Nat.le_refl _))))
            (fun _ _ _ _ _ hs _ _ => hs)
            ⟨HBo.out, HBp.out, Upd.refl _ _⟩
            (fun x => .cells #[.string acc[x].1, .bool acc[x].2] 75 (0, 0)) (fun _ => rfl)
            (fun x Bx T => ((T.setIfInBounds 114 (.int .i64 (x.1 : Int))).setIfInBounds 115 (sideA acc[x])).setIfInBounds 20 (.pointer (some ⟨Bx, 0, none⟩))) ?assign2 (fun _ _ h => h.2.2.size) ?body2 ?done2 ?stop2
          case assign2 =>
            intro l pre x W K hsW hI hK
            have HI := Lib.hid hI
            have HK := Lib.hid hK
            clear hI hK
            unfold sideA at HK ⊢
            generalize acc[x] = ax at *
            obtain ⟨a1, a2⟩ := ax
            dsimp only at *
            gi_wp2
            have hk := HK.out W.heap.size (W.alloc (.cells #[.string a1, .bool a2] 75)) hsW
            simp only [List.setIfInBounds_toArray, List.set_cons_zero, List.set_cons_succ] at hk
            have hU : Upd (fun _ => False) W (W.alloc (.cells #[.string a1, .bool a2] 75)) := (Upd.refl _ W).alloc _
            exact hk (keepsFrom_of_upd hU (fun _ h => h.elim)) (KeepT.of_upd hU (fun k hk => ⟨by have := HSZ.out; omega, fun h => h⟩)) ⟨by rw [allocOld (ltOf HI.out.1)]; exact HI.out.1, by rw [allocOld (ltOf HI.out.2.1)]; exact HI.out.2.1, HI.out.2.2.alloc _⟩ (allocAt _ rfl)
          case body2 =>
            rintro l pre x Bx W hbx hobx ⟨hh, hj, hU⟩ hlt
            have HX := Lib.hid hobx
            have HH := Lib.hid hh
            have HJ := Lib.hid hj
            have HU := Lib.hid hU
            have hbne : W1.heap.size + 1 < Bx := by have := HSZ.out; omega
            have hcc : W.cell? ⟨W1.heap.size, 0, none⟩ = some (.string (firstF acc pre r0)) := by rw [cellOf hh]; rfl
            have hcj : W.cell? ⟨W1.heap.size + 1, 0, none⟩ = some (.string (joinF acc pre r0)) := by rw [cellOf hj]; rfl
            have hx1 : W.cell? ⟨Bx, 0, none⟩ = some (.string acc[x].1) := by rw [cellOf hobx]; rfl
            have hx2 : W.cell? ⟨Bx, 1, none⟩ = some (.bool acc[x].2) := by rw [cellOf hobx]; rfl
            clear hh hj hU hobx
            have hbs := joinF_size acc pre r0 hR0
            have hbf := firstF_size acc pre r0 hR0
            have hx32 := HA32.out acc[x] (List.getElem_mem x.2)
            have JN := Lib.hid (fun W (h : RoundLaid W) => join_any acc[x].1 (joinF acc pre r0) acc[x].2 (by omega) W h)
            have JF := Lib.hid (fun W (h : RoundLaid W) => join_any acc[x].1 (firstF acc pre r0) acc[x].2 (by omega) W h)
            have HSN := Lib.hid (joinF_snoc acc pre x r0)
            have HSF := Lib.hid (firstF_snoc acc pre x r0)
            have HRW := Lib.hid (HR4.out.upd HU.out (by omega))
            simp only [List.setIfInBounds_toArray, List.set_cons_zero, List.set_cons_succ]
            unfold sideA
            generalize joinF acc pre r0 = o1 at *
            generalize firstF acc pre r0 = f1 at *
            generalize acc[x] = ax at *
            obtain ⟨a1, a2⟩ := ax
            dsimp only at *
            cases a2 with
            | false =>
              gi_wp2
              refine ⟨trivial, ?_⟩
              refine (CallsIn.inRound l (callsIn_wide.2 (JN.out W HRW.out))).mono ?_
              rintro e W' ⟨rfl, h2⟩
              have hh2 : W'.heap[W1.heap.size]? = some (.cells #[.string f1] 9 (0, 0)) := by rw [h2.block _ (ltOf HH.out)]; exact HH.out
              have hj2 : W'.heap[W1.heap.size + 1]? = some (.cells #[.string o1] 9 (0, 0)) := by rw [h2.block _ (ltOf HJ.out)]; exact HJ.out
              have cc2 : W'.cell? ⟨W1.heap.size + 1, 0, none⟩ = some (.string o1) := by rw [cellOf hj2]; rfl
              have ff2 : W'.frozen? ⟨W1.heap.size + 1, 0, none⟩ = false := frozenOf hj2 0
              have H2 := Lib.hid h2
              have HH2 := Lib.hid hh2
              have HJ2 := Lib.hid hj2
              clear h2 hh2 hj2
              obtain ⟨o2, ho2⟩ : ∃ o2, (if (false = true) then nodeB a1 o1 else nodeB o1 a1) = o2 := ⟨_, rfl⟩
              rw [ho2]
              have HO2 := Lib.hid ho2
              clear ho2
              gi_wp2
              have hU3 : Upd (fun k => k = W1.heap.size ∨ k = W1.heap.size + 1) W (W'.setCell ⟨W1.heap.size + 1, 0, none⟩ (.string o2)) := (Upd.of_below H2.out).setCell _ _ (.inl (.inr rfl))
              exact ⟨keepsFrom_of_upd hU3 (fun k hk => by have hk' : k = W1.heap.size ∨ k = W1.heap.size + 1 := hk; have := HSZ.out; omega), KeepT.of_upd hU3 (fun k hk => ⟨by have := HU.out.size; have := HSZ.out; omega, fun e => by have hk' : k = W1.heap.size ∨ k = W1.heap.size + 1 := e; omega⟩), by rw [setNe (by omega), HSF.out]; exact HH2.out, by rw [setOf_ HJ2.out 0 _, HSN.out, ← HO2.out]; rfl, HU.out.trans hU3 (fun _ _ h => h)⟩
            | true =>
              gi_wp2
              refine ⟨trivial, ?_⟩
              refine (CallsIn.inRound l (callsIn_wide.2 (JF.out W HRW.out))).mono ?_
              rintro e W' ⟨rfl, h2⟩
              have hh2 : W'.heap[W1.heap.size]? = some (.cells #[.string f1] 9 (0, 0)) := by rw [h2.block _ (ltOf HH.out)]; exact HH.out
              have cc2 : W'.cell? ⟨W1.heap.size, 0, none⟩ = some (.string f1) := by rw [cellOf hh2]; rfl
              have ff2 : W'.frozen? ⟨W1.heap.size, 0, none⟩ = false := frozenOf hh2 0
              have H2 := Lib.hid h2
              have HH2 := Lib.hid hh2
              clear h2 hh2
              obtain ⟨f2, hf2⟩ : ∃ f2, nodeB a1 f1 = f2 := ⟨_, rfl⟩
              rw [if_pos trivial, hf2]
              have HF2 := Lib.hid hf2
              clear hf2
              have hU2 : Upd (fun k => k = W1.heap.size) W (W'.setCell ⟨W1.heap.size, 0, none⟩ (.string f2)) := (Upd.of_below H2.out).setCell _ _ (.inl rfl)
              have hf : (W'.setCell ⟨W1.heap.size, 0, none⟩ (.string f2)).heap[W1.heap.size]? = some (.cells #[.string f2] 9 (0, 0)) := by rw [setOf_ HH2.out 0 _]; rfl
              have hjx := hU2.at HJ.out (by omega)
              have hxx := hU2.at HX.out (by omega)
              have hrx : RoundLaid (W'.setCell ⟨W1.heap.size, 0, none⟩ (.string f2)) := HRW.out.upd hU2 (by omega)
              have U2 := Lib.hid hU2
              have F2 := Lib.hid hf
              have J2 := Lib.hid hjx
              have X2 := Lib.hid hxx
              have R2 := Lib.hid hrx
              have d1 : (W'.setCell ⟨W1.heap.size, 0, none⟩ (.string f2)).cell? ⟨W1.heap.size + 1, 0, none⟩ = some (.string o1) := by rw [cellOf hjx]; rfl
              have d2 : (W'.setCell ⟨W1.heap.size, 0, none⟩ (.string f2)).cell? ⟨Bx, 0, none⟩ = some (.string a1) := by rw [cellOf hxx]; rfl
              have d3 : (W'.setCell ⟨W1.heap.size, 0, none⟩ (.string f2)).cell? ⟨Bx, 1, none⟩ = some (.bool true) := by rw [cellOf hxx]; rfl
              clear hU2 hf hjx hxx hrx hcc hcj hx1 hx2
              gi_wp2
              refine ⟨trivial, ?_⟩
              refine (CallsIn.inRound l (callsIn_wide.2 (JN.out _ R2.out))).mono ?_
              rintro e W'' ⟨rfl, h2⟩
              clear d1 d2 d3 JN JF
              have hF3 : W''.heap[W1.heap.size]? = some (.cells #[.string f2] 9 (0, 0)) := by rw [h2.block _ (ltOf F2.out)]; exact F2.out
              have hJ3 : W''.heap[W1.heap.size + 1]? = some (.cells #[.string o1] 9 (0, 0)) := by rw [h2.block _ (ltOf J2.out)]; exact J2.out
              have cc3 : W''.cell? ⟨W1.heap.size + 1, 0, none⟩ = some (.string o1) := by rw [cellOf hJ3]; rfl
              have ff3 : W''.frozen? ⟨W1.heap.size + 1, 0, none⟩ = false := frozenOf hJ3 0
              have H3 := Lib.hid h2
              have F3 := Lib.hid hF3
              have J3 := Lib.hid hJ3
              clear h2 hF3 hJ3 cc2 ff2
              obtain ⟨o2, ho2⟩ : ∃ o2, nodeB a1 o1 = o2 := ⟨_, rfl⟩
              rw [if_pos trivial, ho2]
              have HO2 := Lib.hid ho2
              clear ho2
              gi_wp2
              have hU3 : Upd (fun k => k = W1.heap.size ∨ k = W1.heap.size + 1) W (W''.setCell ⟨W1.heap.size + 1, 0, none⟩ (.string o2)) := ((U2.out.mono (fun _ _ h => .inl h)).trans (Upd.of_below (S := fun _ => False) H3.out) (fun _ _ h => h.elim)).setCell _ _ (.inl (.inr rfl))
              exact ⟨keepsFrom_of_upd hU3 (fun k hk => by have hk' : k = W1.heap.size ∨ k = W1.heap.size + 1 := hk; have := HSZ.out; omega), KeepT.of_upd hU3 (fun k hk => ⟨by have := HU.out.size; have := HSZ.out; omega, fun e => by have hk' : k = W1.heap.size ∨ k = W1.heap.size + 1 := e; omega⟩), by rw [setNe (by omega), HSF.out, if_pos trivial]; have := F3.out; rw [← HF2.out] at this; exact this, by rw [setOf_ J3.out 0 _, HSN.out, ← HO2.out]; rfl, HU.out.trans hU3 (fun _ _ h => h)⟩
          case done2 =>
            rintro D ys W hD rfl ⟨hh, hj, hU⟩ hK
            have hcc : W.cell? ⟨W1.heap.size, 0, none⟩ = some (.string (Dig.first nodeB r0 acc)) := by rw [cellOf hh, firstF_all]; rfl
            have hcj : W.cell? ⟨W1.heap.size + 1, 0, none⟩ = some (.string (Dig.value nodeB r0 acc)) := by rw [cellOf hj, joinF_all]; rfl
            have HU := Lib.hid hU
            have HK := Lib.hid hK
            clear hh hj hU hK
            obtain ⟨fv, hfv⟩ : ∃ fv, Dig.first nodeB r0 acc = fv := ⟨_, rfl⟩
            obtain ⟨vv, hvv⟩ : ∃ vv, Dig.value nodeB r0 acc = vv := ⟨_, rfl⟩
            rw [hfv] at hcc
            rw [hvv] at hcj
            have HFV := Lib.hid hfv
            have HVV := Lib.hid hvv
            clear hfv hvv
            have hW : Below w.heap.size w W := HB4.out.trans (HU.out.below' (by have := HSZ.out; omega) (by intro i hi h; have h' : i = W1.heap.size ∨ i = W1.heap.size + 1 := h; omega))
            have hF := hW.trans (belowK_b (w := w) (Nat.le_refl _) W D (.deferred (some [])) (.deferred none) (by have := HSZ.out; omega) HK.out rfl rfl)
            have HF := Lib.hid hF
            clear hW hF
            have EV : Hid (endEB old root (wayEB n m P.reverse true) = ((fv.toList == old.toList) && (vv.toList == root.toList))) := Lib.hid (by rw [EE.out, ← beq_toListBytes, ← beq_toListBytes, ← HFV.out, ← HVV.out]; rfl)
            cases e1 : (fv.toList == old.toList) with
            | false =>
              rw [e1] at EV
              go_wp2
              refine ⟨by simp, .inl ⟨_, _, rfl, run_takeDeferred HK.out, ?_⟩⟩
              exact ⟨_, results_tmp rfl _ _ _, by rw [EV.out]; rfl, HF.out⟩
            | true =>
              rw [e1] at EV
              go_wp2
              refine ⟨by simp, .inl ⟨_, _, rfl, run_takeDeferred HK.out, ?_⟩⟩
              exact ⟨_, results_tmp rfl _ _ _, by rw [EV.out]; rfl, HF.out⟩
          case stop2 =>
            rintro D c pre W _ _ h _
            exact h.elim

theorem VE_any (w : World) (old root : ByteArray) (m n : Int) (pv : Value) (P : List ByteArray) (hsl : SL w pv P) (hlen : P.length ≤ 1000000) (hs : ∀ s ∈ P, s.size ≤ 9223372036854775807) (ho : old.size ≤ 9223372036854775807) (hr : root.size ≤ 9223372036854775807) (hn : n ≤ 9223372036854775807) (hR : RoundLaid w) :
    Calls Tryd.prog 24 #[.string old, .int .i64 m, .string root, .int .i64 n, pv] w fun e w' => e = .returned (.bool (verEB old m root n P)) ∧ Below w.heap.size w w' := by
  by_cases h : 0 ≤ m ∧ m ≤ n
  · have e0 : fineE old m root n P = (allD P && (old.size == 32) && (root.size == 32)) := by
      unfold fineE; rw [decide_eq_true h.1, decide_eq_true h.2]; rfl
    cases hd : (allD P && (old.size == 32) && (root.size == 32)) with
    | false =>
      refine (VE_odd w old root m n pv P hsl hlen hs ho hr h.1 h.2 hd).mono ?_
      rintro e w' ⟨rfl, rfl⟩
      exact ⟨ret_bool (by rw [verEB, e0, hd]; rfl), Below.refl _ _⟩
    | true =>
      have hd1 : allD P = true := by simp only [Bool.and_eq_true] at hd; exact hd.1.1
      have ho1 : old.size = 32 := by simp only [Bool.and_eq_true] at hd; simpa using hd.1.2
      have hr1 : root.size = 32 := by simp only [Bool.and_eq_true] at hd; simpa using hd.2
      by_cases hm0 : m = 0
      · subst hm0
        refine (VE_zero w old root pv P hsl hlen hd1 ho1 hr1 n h.2 hR).mono ?_
        rintro e w' ⟨rfl, hb⟩
        exact ⟨ret_bool (by rw [verEB, e0, hd, if_pos rfl]; rfl), hb⟩
      · by_cases hmn : m = n
        · subst hmn
          refine (VE_same w old root pv P hsl hlen hd1 ho1 hr1 m (by omega)).mono ?_
          rintro e w' ⟨rfl, hb⟩
          exact ⟨ret_bool (by rw [verEB, e0, hd, if_neg hm0, if_pos rfl]; rfl), hb⟩
        · obtain ⟨M, rfl⟩ := Int.eq_ofNat_of_zero_le h.1
          obtain ⟨N, rfl⟩ := Int.eq_ofNat_of_zero_le (show 0 ≤ n by omega)
          refine (VE_main w old root pv P hsl hlen hd1 ho1 hr1 N M (by omega) (by omega) (by omega) hR).mono ?_
          rintro e w' ⟨rfl, hb⟩
          exact ⟨ret_bool (by rw [verEB, e0, hd, if_neg hm0, if_neg hmn]; rfl), hb⟩
  · refine (VE_range w old root m n pv h).mono ?_
    rintro e w' ⟨rfl, rfl⟩
    refine ⟨ret_bool ?_, Below.refl _ _⟩
    rw [verEB, fineE]
    have : (decide (0 ≤ m) && decide (m ≤ n)) = false := by simpa using h
    rw [this]; rfl
end Go.Proofs.YtljgphmdiflphaaDoor
