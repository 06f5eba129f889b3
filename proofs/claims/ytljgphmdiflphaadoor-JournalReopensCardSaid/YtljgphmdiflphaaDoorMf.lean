/- VerifyExtension: on the way.
  The small functions of the laws.
  few.
  Appending rows of strings; the laws' own left.
  Appending a row of strings that can be read onto one of the call's own, in whatever order a region draws.
  The journal's tape: its records, its head, its size; add.
  errors.Is of an error with itself. (Lines of the worked proof SentryIs, turned to this program.)
-/
import Derived.Test.YtljgphmdiflphaaDoorMe
import Derived.Test.YtljgphmdiflphaaDoorMa
import Derived.Test.YtljgphmdiflphaaDoorProg
import Derived.Laws.AppendOwnNone
import Derived.Deep.RegionHeld3
import Derived.Deep.AppendLies
import Derived.LaidEql
import Derived.Stop.Asserts
import Derived.RowKitTokens
namespace Go.Proofs.YtljgphmdiflphaaDoor
open Go.RowKit Go.Shelf
set_option linter.unusedVariables false
attribute [local go_sem] Oper.semAt_some

/-- the older root's sides from the end of a way on -/
def firstF (L : List (ByteArray × Bool)) (pre : List (Fin L.length)) (r : ByteArray) : ByteArray := pre.foldl (fun o x => if L[x].2 then Dig.join nodeB L[x] o else o) r
theorem firstF_snoc (L : List (ByteArray × Bool)) (pre : List (Fin L.length)) (x : Fin L.length) (r : ByteArray) : firstF L (pre ++ [x]) r = if L[x].2 then Dig.join nodeB L[x] (firstF L pre r) else firstF L pre r := by simp [firstF]
theorem firstF_size (L : List (ByteArray × Bool)) (pre : List (Fin L.length)) (r : ByteArray) (hr : r.size = 32) : (firstF L pre r).size = 32 := by
  rcases snoc_cases pre with rfl | ⟨p, x, rfl⟩
  · exact hr
  · rw [firstF_snoc]
    split
    · exact join_size _ _
    · exact firstF_size L p r hr
termination_by pre.length
decreasing_by simp_all
theorem firstF_all (L : List (ByteArray × Bool)) (r : ByteArray) : firstF L (List.finRange L.length).reverse r = Dig.first nodeB r L := by
  unfold firstF Dig.first
  rw [List.foldl_reverse]
  have := List.foldr_map (f := fun x : Fin L.length => L[x]) (g := fun (s : ByteArray × Bool) o => if s.2 then Dig.join nodeB s o else o) (l := List.finRange L.length) (init := r)
  rw [map_finRangeS] at this
  exact this.symm

/-- two boxes and the box of the walked row -/
theorem box3 {w W1 W4 : World} {A C : Obj} (h : ((W1.alloc A).alloc A).alloc C = W4) (hB : Below w.heap.size w W1) : W4.heap[W1.heap.size]? = some A ∧ W4.heap[W1.heap.size + 1]? = some A ∧ W4.heap[W1.heap.size + 2]? = some C ∧ W4.heap.size = W1.heap.size + 3 ∧ (∀ p v, p.block < W1.heap.size → W1.cell? p = some v → W4.cell? p = some v) ∧ Below w.heap.size w W4 := by
  subst h
  refine ⟨?_, ?_, ?_, by simp, ?_, ?_⟩
  · rw [allocOld (by simp; omega), allocOld (by simp)]; exact allocAt _ rfl
  · rw [allocOld (by simp)]; exact allocAt _ (by simp)
  · exact allocAt _ (by simp)
  · intro p v hp hv
    exact ((((Below.refl W1.heap.size W1).alloc (Nat.le_refl _) A).alloc (by simp) A).alloc (by simp; omega) C).cell (p := p) hp |>.trans hv
  · have := hB.size
    exact ((hB.alloc hB.size _).alloc (by simp; omega) _).alloc (by simp; omega) _
theorem box3d {w W1 W4 : World} {A C : Obj} (h : ((W1.alloc A).alloc A).drew.alloc C = W4) (hB : Below w.heap.size w W1) : W4.heap[W1.heap.size]? = some A ∧ W4.heap[W1.heap.size + 1]? = some A ∧ W4.heap[W1.heap.size + 2]? = some C ∧ W4.heap.size = W1.heap.size + 3 ∧ (∀ p v, p.block < W1.heap.size → W1.cell? p = some v → W4.cell? p = some v) ∧ Below w.heap.size w W4 := by
  subst h
  refine ⟨?_, ?_, ?_, by rw [World.size_alloc, drewHeap]; simp, ?_, ?_⟩
  · rw [allocOld (by rw [drewHeap]; simp; omega), drewHeap, allocOld (by simp)]; exact allocAt _ rfl
  · rw [allocOld (by rw [drewHeap]; simp), drewHeap]; exact allocAt _ (by simp)
  · exact allocAt _ (by rw [drewHeap]; simp)
  · intro p v hp hv
    exact ((((Below.refl W1.heap.size W1).alloc (Nat.le_refl _) A).alloc (by simp) A).drew.alloc (by rw [drewHeap]; simp; omega) C).cell (p := p) hp |>.trans hv
  · have := hB.size
    exact (((hB.alloc hB.size _).alloc (by simp; omega) _).drew).alloc (by rw [drewHeap]; simp; omega) _

/-- On the way down. -/
def VeS (w : World) (n m : Nat) (P : List ByteArray) (nn mm : Nat) (wh : Bool) (pv ov : Value) (wr : World) : Prop :=
  ∃ (t : List ByteArray) (acc : List (ByteArray × Bool)), SL w pv t.reverse ∧ wr.ownsRow w.heap.size 75 2 ov acc.length (sidesV acc) ∧ Below w.heap.size w wr ∧
    wayEB n m P.reverse true = (wayEB nn mm t wh).map (fun r => (acc ++ r.1, r.2)) ∧ 1 ≤ mm ∧ mm ≤ nn ∧ nn ≤ n ∧ (∀ x ∈ acc, x.1.size = 32) ∧ (∀ x ∈ t, x.size = 32) ∧ acc.length + t.length = P.length

set_option maxRecDepth 100000 in
set_option maxHeartbeats 8000000 in
theorem VE_main (w : World) (old root : ByteArray) (pv : Value) (P : List ByteArray) (hsl : SL w pv P) (hlen : P.length ≤ 1000000) (hd : allD P = true) (ho : old.size = 32) (hr : root.size = 32) (n m : Nat) (hm : 1 ≤ m) (hmn : m < n) (hn : n ≤ 9223372036854775807) (hR : RoundLaid w) :
    Calls Tryd.prog 24 #[.string old, .int .i64 (m : Int), .string root, .int .i64 (n : Int), pv] w fun e w' => e = .returned (.bool (endEB old root (wayEB n m P.reverse true))) ∧ Below w.heap.size w w' := by
  obtain ⟨i75, hi75, hz75, hy75, hb75⟩ := info_parts Tryd.infoSide
  have hP32 := (allD_iff P).1 hd
  have AL := Lib.hid (all_any w pv P hsl (by omega) (fun s h => by have := (allD_iff P).1 hd s h; omega))
  have D1 := Lib.hid (isDigest_any old (by omega) w)
  have D2 := Lib.hid (isDigest_any root (by omega) w)
  rw [hd] at AL
  rw [show (old.size == 32) = true by simpa using ho] at D1
  rw [show (root.size == 32) = true by simpa using hr] at D2
  have V0 : Hid (VeS w n m P n m true pv (.slice none 0 0) w) := Lib.hid ⟨P.reverse, [], by rw [List.reverse_reverse]; exact hsl, World.ownsRow_nil _ _ _ _, Below.refl _ _, by cases wayEB n m P.reverse true <;> rfl, hm, by omega, Nat.le_refl _, (by intro x hx; cases hx), fun x hx => hP32 x (List.mem_reverse.1 hx), by simp⟩
  have HR := Lib.hid hR
  clear hsl hd hP32 hR
  refine callsIn_wide (n := 9) |>.1 ?_
  refine callsIn_of_wp_marks Tryd.func24 rfl trivial ?_ rfl
  refine wpIn_wide.2 ?_
  simp only [Tryd.ntmps24, List.size_toArray, List.length_cons, List.length_nil, Nat.reduceAdd, Nat.reduceSub, Array.replicate_succ, Array.replicate_zero, List.push_toArray, List.append_toArray, List.nil_append, List.cons_append]
  have h0 : ¬ (m : Int) < 0 := by omega
  have h2 : decide ((m : Int) < 0) = false := decide_eq_false h0
  have h3 : ¬ (n : Int) < (m : Int) := by omega
  have h4 : decide (n < m) = false := decide_eq_false (by omega)
  have h5 : ((m : Int) == 0) = false := beq_false_of_ne (by omega)
  have h6 : ((m : Int) == (n : Int)) = false := beq_false_of_ne (by omega)
  go_wp2_with fail
  refine AL.out.mono ?_
  rintro e w' ⟨rfl, rfl⟩
  go_wp2_with fail
  refine D1.out.mono ?_
  rintro e w' ⟨rfl, rfl⟩
  go_wp2_with fail
  refine D2.out.mono ?_
  rintro e w' ⟨rfl, rfl⟩
  go_wp2
  try rw [h5]
  try rw [h6]
  clear h0 h2 h3 h4 h5 h6 AL D1 D2
  go_loopw [1, 3, 4, 11, 12, 13, 14, 15, 16] (fun mv nv pv ov hv _ _ _ _ wr => ∃ (nn mm : Nat) (wh : Bool), mv = .int .i64 mm ∧ nv = .int .i64 nn ∧ hv = .bool wh ∧ VeS w n m P nn mm wh pv ov wr) (fun _ nv _ _ _ _ _ _ _ _ => (intOf nv).toNat)
  case atStart => exact ⟨n, m, true, rfl, rfl, rfl, V0.out⟩
  case round =>
    clear V0
    obtain ⟨nn, mm, wh, rfl, rfl, rfl, hV⟩ := hrel
    obtain ⟨t, acc, hsl, hown, hbel, hway, hm1, hmm, hnn, ha32, ht32, hln⟩ := hV
    have HOWN := Lib.hid hown
    have HBEL := Lib.hid hbel
    have HWAY := Lib.hid hway
    have HA32 := Lib.hid ha32
    have HT32 := Lib.hid ht32
    have ACL : acc.length ≤ 1000000 := by omega
    have HLN := Lib.hid hln
    clear hown hbel hway ha32 ht32
    by_cases h1' : mm < nn
    · cases t with
      | nil =>
        obtain ⟨a, c, rfl, _, _⟩ := hsl.form
        have EN : Hid (endEB old root (wayEB n m P.reverse true) = false) := Lib.hid (by rw [HWAY.out, wayEB, Dig.wayE_nil _ _ _ h1']; rfl)
        have TN := Lib.hid (take_none a c wr)
        clear hsl hln HLN
        rw [show ([] : List ByteArray).reverse.length = 0 from rfl]
        go_wp2_with fail
        refine TN.out.mono ?_
        rintro e w' ⟨rfl, rfl⟩
        go_wp2
        exact ⟨_, results_tmp rfl _ _ _, by rw [EN.out]; rfl, HBEL.out⟩
      | cons x t =>
        obtain ⟨b, off, c, rfl, hc, hb, hcs⟩ := hsl.out (by simp)
        obtain ⟨q, hq⟩ : ∃ q, t.length = q := ⟨_, rfl⟩
        have hl1 : (x :: t).reverse.length = q + 1 := by simp [hq]
        rw [hl1] at hc ⊢
        have hcx : wr.cell? ⟨b, off + q, none⟩ = some (.string x) := (HBEL.out.cell (p := ⟨b, off + q, none⟩) hb).trans (hcs q x (by rw [List.reverse_cons, ← hq]; simp))
        have SLT : Hid (SL w (.slice (some ⟨b, off, none⟩) q c) t.reverse) := Lib.hid (SL.mk' (by simp [hq]) (by omega) hb (fun j y hj => hcs j y (by
          rw [List.reverse_cons, List.getElem?_append_left (by have := (List.getElem?_eq_some_iff.1 hj).1; exact this)]; exact hj)))
        have hqb : q ≤ 1000000 := by simp only [List.length_cons] at hln; omega
        have TS := Lib.hid (take_some b off q c x wr (by omega) hc hcx)
        have hx32 := HT32.out x (by simp)
        obtain ⟨k, hk⟩ : ∃ k, Dig.lft nn = k := ⟨_, rfl⟩
        have hk1 := Dig.lft_lt (n := nn) (by omega)
        have hk0 := Dig.lft_pos nn
        rw [hk] at hk1 hk0
        have LE := Lib.hid (left_any nn (by omega) (by omega))
        rw [hk] at LE
        have WC := Lib.hid (Dig.wayE_cons nn mm x t wh (by omega) (by omega))
        rw [hk] at WC
        clear hsl hcs hl1 hq hk hcx hln
        go_wp2_with fail
        refine TS.out.mono ?_
        rintro e w' ⟨rfl, nq, rfl⟩
        have OW : Hid ((wr.drewN nq).ownsRow w.heap.size 75 2 u11 acc.length (sidesV acc)) := HOWN
        have BW : Hid (Below w.heap.size w (wr.drewN nq)) := Lib.hid ⟨HBEL.out.os, HBEL.out.tape, HBEL.out.output, HBEL.out.size, HBEL.out.block⟩
        clear HOWN HBEL TS
        generalize wr.drewN nq = W2 at *
        go_wp2_with fail
        refine (LE.out _).mono ?_
        rintro e w' ⟨rfl, rfl⟩
        have hz2 := BW.out.size
        by_cases hik : mm ≤ k
        · have g0 : ¬ (k : Int) < (mm : Int) := by omega
          have g1 : decide (k < mm) = false := decide_eq_false (by omega)
          go_wp2_with (at_builtin; refine wpList_append_own _ rfl (.tmp 81) (.tmp 87) 71 rfl w.heap.size 75 i75 _ 2 24 Tryd.underlying71 hi75 hz75 hy75 hb75 rfl (by decide) _ _ _ rfl (OW.out.alloc _) ⟨W2.heap.size, 0, none⟩ 1 1 [.string x, .bool false] rfl rfl (World.news_of_block (cs := #[.string x, .bool false]) (t := 75) (fr := (0, 0)) (heap_alloc_new _ _)) (by simp [Value.oneCell']) (by simp only [maxLen]; omega) (by omega) (by simp; omega) ?_; intro v3 W4 hown hgr _; have O4 := Lib.hid hown; have G4 := Lib.hid hgr; clear hown hgr)
          go_roundw
          case rel =>
            have R : VeS w n m P k mm wh (.slice (some ⟨b, off, none⟩) q c) v3 W4 := ⟨t, acc ++ [(x, false)], SLT.out, by rw [List.length_append]; simpa [sidesV, sideV] using O4.out, (BW.out.alloc BW.out.size _).grown G4.out (by simp; omega) (fun k e => (OW.out.lt k e).1), by
              rw [HWAY.out, wayEB, WC.out, if_pos hik, Option.map_map]
              unfold wayEB
              congr 1
              funext r
              simp, hm1, hik, by omega, (fun y hy => by
                rcases List.mem_append.1 hy with hy | hy
                · exact HA32.out y hy
                · obtain rfl := List.mem_singleton.1 hy; exact hx32), fun y hy => HT32.out y (by simp [hy]), by have := HLN.out; simp at this ⊢; omega⟩
            first | exact ⟨_, _, _, rfl, rfl, rfl, R⟩ | ((repeat apply Exists.intro); exact ⟨⟨_, _, _, rfl, rfl, rfl, R⟩, rfl⟩)
          case measure => simp [intOf]; omega
        · have g0 : (k : Int) < (mm : Int) := by omega
          have g1 : decide (k < mm) = true := decide_eq_true (by omega)
          go_wp2_with (at_builtin; refine wpList_append_own _ rfl (.tmp 81) (.tmp 87) 71 rfl w.heap.size 75 i75 _ 2 24 Tryd.underlying71 hi75 hz75 hy75 hb75 rfl (by decide) _ _ _ rfl (OW.out.alloc _) ⟨W2.heap.size, 0, none⟩ 1 1 [.string x, .bool true] rfl rfl (World.news_of_block (cs := #[.string x, .bool true]) (t := 75) (fr := (0, 0)) (heap_alloc_new _ _)) (by simp [Value.oneCell']) (by simp only [maxLen]; omega) (by omega) (by simp; omega) ?_; intro v3 W4 hown hgr _; have O4 := Lib.hid hown; have G4 := Lib.hid hgr; clear hown hgr)
          go_roundw
          case rel =>
            have R : VeS w n m P (nn - k) (mm - k) false (.slice (some ⟨b, off, none⟩) q c) v3 W4 := ⟨t, acc ++ [(x, true)], SLT.out, by rw [List.length_append]; simpa [sidesV, sideV] using O4.out, (BW.out.alloc BW.out.size _).grown G4.out (by simp; omega) (fun k e => (OW.out.lt k e).1), by
              rw [HWAY.out, wayEB, WC.out, if_neg hik, Option.map_map]
              unfold wayEB
              congr 1
              funext r
              simp, by omega, by omega, by omega, (fun y hy => by
                rcases List.mem_append.1 hy with hy | hy
                · exact HA32.out y hy
                · obtain rfl := List.mem_singleton.1 hy; exact hx32), fun y hy => HT32.out y (by simp [hy]), by have := HLN.out; simp at this ⊢; omega⟩
            have e1 : (nn : Int) - (k : Int) = ((nn - k : Nat) : Int) := by omega
            have e2 : (mm : Int) - (k : Int) = ((mm - k : Nat) : Int) := by omega
            rw [e1, e2]
            first | exact ⟨_, _, _, rfl, rfl, rfl, R⟩ | ((repeat apply Exists.intro); exact ⟨⟨_, _, _, rfl, rfl, rfl, R⟩, rfl⟩)
          case measure => simp [intOf]; omega
    · have EE : Hid (wayEB n m P.reverse true = some (acc, t, wh)) := Lib.hid (by rw [HWAY.out, wayEB, Dig.wayE_end _ _ _ _ (by omega)]; simp)
      have hw0 : 0 < w.heap.size := ltOf HR.out.choose_spec
      have hpl : t.reverse.length = t.length := List.length_reverse
      have htl : t.length ≤ 1000000 := by omega
      have hq0 : (nn : Int) ≤ mm := by omega
      have hq1 : decide (mm < nn) = false := decide_eq_false h1'
      have BW1 := HBEL
      have hz1 := BW1.out.size
      obtain ⟨ga, gc, g, hu, hga, hgl, hg0, hgc⟩ := sides_form HOWN.out (by omega)
      subst hu
      have HGC := Lib.hid hgc
      have HGA := Lib.hid hga
      clear HOWN HBEL hgc hga hln HLN HWAY
      generalize wr = W1 at *
      cases wh with
      | true =>
        obtain ⟨pa, pc, hpv, _, _⟩ := hsl.form
        rw [hpl] at hpv
        subst hpv
        clear hsl hpl h1'
        go_wp2_with fail
        refine (BackS_any _ rfl _).mono ?_
        rintro e W4 ⟨rfl, hW4⟩
        obtain ⟨hBo, hBp, hBs, hsz, hcell, hB4⟩ := box3 hW4 BW1.out
        have hR0 : (old).size = 32 := by assumption
        have hcs4 : ∀ j u, (sidesV acc)[j]? = some u → W4.cell? ⟨g, 0 + j, none⟩ = some u := fun j u hj => hcell ⟨g, 0 + j, none⟩ u hgl (HGC.out j u hj)
        have hR4 : RoundLaid W4 := HR.out.below hB4
        have HBo := Lib.hid hBo
        have HBp := Lib.hid hBp
        have HBs := Lib.hid hBs
        have HB4 := Lib.hid hB4
        have HSZ := Lib.hid hsz
        have HCS4 := Lib.hid hcs4
        have HR4 := Lib.hid hR4
        clear hW4 hBo hBp hBs hB4 hsz hcs4 hR4 HGC hcell
        go_wp2
        refine (wpIn_wide (n := 9)).1 ?_
        refine rangeH rfl (by omega) (gf := 88) (lb := #[.pointer (some ⟨W1.heap.size + 2, 0, none⟩)]) rfl trivial (enters_of Tryd.func88 (by kernel_rfl) rfl)
          (backS_stops 8 (by omega) (W1.heap.size + 2) g 0 gc acc (by omega) W4 _ _ ga (fun h => (HGA.out h).1) HBs.out (fun _ => by have := HSZ.out; omega) HCS4.out) KeepT.trans (KeepT.putObj (by have := HSZ.out; intro k hk; omega)) (Below.refl _ _) (fun _ => rfl)
          (fun (pre : List (Fin acc.length)) W => W.heap[W1.heap.size]? = some (.cells #[.string (firstF acc pre old)] 9 (0, 0)) ∧ W.heap[W1.heap.size + 1]? = some (.cells #[.string (joinF acc pre old)] 9 (0, 0)) ∧ Upd (fun k => k = W1.heap.size ∨ k = W1.heap.size + 1) W4 W)
          (fun _ _ _ => False)
          (OwnFrom.and (ownFrom_at W1.heap.size (fun pre => .cells #[.string (firstF acc pre old)] 9 (0, 0)) (by have := HSZ.out; omega)) (OwnFrom.and (ownFrom_at (W1.heap.size + 1) (fun pre => .cells #[.string (joinF acc pre old)] 9 (0, 0)) (by have := HSZ.out; omega)) (ownFrom_upd (Nat.le_refl _))))
          (fun _ _ _ _ _ hs _ _ => hs)
          ⟨HBo.out, HBp.out, Upd.refl _ _⟩
          (fun x => .cells #[.string acc[x].1, .bool acc[x].2] 75 (0, 0)) (fun _ => rfl)
          (fun x Bx T => ((T.setIfInBounds 114 (.int .i64 (x.1 : Int))).setIfInBounds 115 (sideA acc[x])).setIfInBounds 20 (.pointer (some ⟨Bx, 0, none⟩))) ?assign (fun _ _ h => h.2.2.size) ?body ?done ?stop
        case assign =>
          intro l pre x W K hsW hI hK
          have HI := Lib.hid hI
          have HK := Lib.hid hK
          clear hI hK
          unfold sideA at HK ⊢
          generalize acc[x] = ax at *
          obtain ⟨a1, a2⟩ := ax
          dsimp only at *
          gi_wp2
          have hk := HK.out W.heap.size (W.alloc (.cells #[.string a1, .bool a2] 75)) hsW
          simp only [List.setIfInBounds_toArray, List.set_cons_zero, List.set_cons_succ] at hk
          have hU : Upd (fun _ => False) W (W.alloc (.cells #[.string a1, .bool a2] 75)) := (Upd.refl _ W).alloc _
          exact hk (keepsFrom_of_upd hU (fun _ h => h.elim)) (KeepT.of_upd hU (fun k hk => ⟨by have := HSZ.out; omega, fun h => h⟩)) ⟨by rw [allocOld (ltOf HI.out.1)]; exact HI.out.1, by rw [allocOld (ltOf HI.out.2.1)]; exact HI.out.2.1, HI.out.2.2.alloc _⟩ (allocAt _ rfl)
        case body =>
          rintro l pre x Bx W hbx hobx ⟨hh, hj, hU⟩ hlt
          have HX := Lib.hid hobx
          have HH := Lib.hid hh
          have HJ := Lib.hid hj
          have HU := Lib.hid hU
          have hbne : W1.heap.size + 1 < Bx := by have := HSZ.out; omega
          have hcc : W.cell? ⟨W1.heap.size, 0, none⟩ = some (.string (firstF acc pre old)) := by rw [cellOf hh]; rfl
          have hcj : W.cell? ⟨W1.heap.size + 1, 0, none⟩ = some (.string (joinF acc pre old)) := by rw [cellOf hj]; rfl
          have hx1 : W.cell? ⟨Bx, 0, none⟩ = some (.string acc[x].1) := by rw [cellOf hobx]; rfl
          have hx2 : W.cell? ⟨Bx, 1, none⟩ = some (.bool acc[x].2) := by rw [cellOf hobx]; rfl
          clear hh hj hU hobx
          have hbs := joinF_size acc pre old hR0
          have hbf := firstF_size acc pre old hR0
          have hx32 := HA32.out acc[x] (List.getElem_mem x.2)
          have JN := Lib.hid (fun W (h : RoundLaid W) => join_any acc[x].1 (joinF acc pre old) acc[x].2 (by omega) W h)
          have JF := Lib.hid (fun W (h : RoundLaid W) => join_any acc[x].1 (firstF acc pre old) acc[x].2 (by omega) W h)
          have HSN := Lib.hid (joinF_snoc acc pre x old)
          have HSF := Lib.hid (firstF_snoc acc pre x old)
          have HRW := Lib.hid (HR4.out.upd HU.out (by omega))
          simp only [List.setIfInBounds_toArray, List.set_cons_zero, List.set_cons_succ]
          unfold sideA
          generalize joinF acc pre old = o1 at *
          generalize firstF acc pre old = f1 at *
          generalize acc[x] = ax at *
          obtain ⟨a1, a2⟩ := ax
          dsimp only at *
          cases a2 with
          | false =>
            gi_wp2
            refine ⟨trivial, ?_⟩
            refine (CallsIn.inRound l (callsIn_wide.2 (JN.out W HRW.out))).mono ?_
            rintro e W' ⟨rfl, h2⟩
            have hh2 : W'.heap[W1.heap.size]? = some (.cells #[.string f1] 9 (0, 0)) := by rw [h2.block _ (ltOf HH.out)]; exact HH.out
            have hj2 : W'.heap[W1.heap.size + 1]? = some (.cells #[.string o1] 9 (0, 0)) := by rw [h2.block _ (ltOf HJ.out)]; exact HJ.out
            have cc2 : W'.cell? ⟨W1.heap.size + 1, 0, none⟩ = some (.string o1) := by rw [cellOf hj2]; rfl
            have ff2 : W'.frozen? ⟨W1.heap.size + 1, 0, none⟩ = false := frozenOf hj2 0
            have H2 := Lib.hid h2
            have HH2 := Lib.hid hh2
            have HJ2 := Lib.hid hj2
            clear h2 hh2 hj2
            obtain ⟨o2, ho2⟩ : ∃ o2, (if (false = true) then nodeB a1 o1 else nodeB o1 a1) = o2 := ⟨_, rfl⟩
            rw [ho2]
            have HO2 := Lib.hid ho2
            clear ho2
            gi_wp2
            have hU3 : Upd (fun k => k = W1.heap.size ∨ k = W1.heap.size + 1) W (W'.setCell ⟨W1.heap.size + 1, 0, none⟩ (.string o2)) := (Upd.of_below H2.out).setCell _ _ (.inl (.inr rfl))
            exact ⟨keepsFrom_of_upd hU3 (fun k hk => by have hk' : k = W1.heap.size ∨ k = W1.heap.size + 1 := hk; have := HSZ.out; omega), KeepT.of_upd hU3 (fun k hk => ⟨by have := HU.out.size; have := HSZ.out; omega, fun e => by have hk' : k = W1.heap.size ∨ k = W1.heap.size + 1 := e; omega⟩), by rw [setNe (by omega), HSF.out]; exact HH2.out, by rw [setOf_ HJ2.out 0 _, HSN.out, ← HO2.out]; rfl, HU.out.trans hU3 (fun _ _ h => h)⟩
          | true =>
            gi_wp2
            refine ⟨trivial, ?_⟩
            refine (CallsIn.inRound l (callsIn_wide.2 (JF.out W HRW.out))).mono ?_
            rintro e W' ⟨rfl, h2⟩
            have hh2 : W'.heap[W1.heap.size]? = some (.cells #[.string f1] 9 (0, 0)) := by rw [h2.block _ (ltOf HH.out)]; exact HH.out
            have cc2 : W'.cell? ⟨W1.heap.size, 0, none⟩ = some (.string f1) := by rw [cellOf hh2]; rfl
            have ff2 : W'.frozen? ⟨W1.heap.size, 0, none⟩ = false := frozenOf hh2 0
            have H2 := Lib.hid h2
            have HH2 := Lib.hid hh2
            clear h2 hh2
            obtain ⟨f2, hf2⟩ : ∃ f2, nodeB a1 f1 = f2 := ⟨_, rfl⟩
            rw [if_pos trivial, hf2]
            have HF2 := Lib.hid hf2
            clear hf2
            have hU2 : Upd (fun k => k = W1.heap.size) W (W'.setCell ⟨W1.heap.size, 0, none⟩ (.string f2)) := (Upd.of_below H2.out).setCell _ _ (.inl rfl)
            have hf : (W'.setCell ⟨W1.heap.size, 0, none⟩ (.string f2)).heap[W1.heap.size]? = some (.cells #[.string f2] 9 (0, 0)) := by rw [setOf_ HH2.out 0 _]; rfl
            have hjx := hU2.at HJ.out (by omega)
            have hxx := hU2.at HX.out (by omega)
            have hrx : RoundLaid (W'.setCell ⟨W1.heap.size, 0, none⟩ (.string f2)) := HRW.out.upd hU2 (by omega)
            have U2 := Lib.hid hU2
            have F2 := Lib.hid hf
            have J2 := Lib.hid hjx
            have X2 := Lib.hid hxx
            have R2 := Lib.hid hrx
            have d1 : (W'.setCell ⟨W1.heap.size, 0, none⟩ (.string f2)).cell? ⟨W1.heap.size + 1, 0, none⟩ = some (.string o1) := by rw [cellOf hjx]; rfl
            have d2 : (W'.setCell ⟨W1.heap.size, 0, none⟩ (.string f2)).cell? ⟨Bx, 0, none⟩ = some (.string a1) := by rw [cellOf hxx]; rfl
            have d3 : (W'.setCell ⟨W1.heap.size, 0, none⟩ (.string f2)).cell? ⟨Bx, 1, none⟩ = some (.bool true) := by rw [cellOf hxx]; rfl
            clear hU2 hf hjx hxx hrx hcc hcj hx1 hx2
            gi_wp2
            refine ⟨trivial, ?_⟩
            refine (CallsIn.inRound l (callsIn_wide.2 (JN.out _ R2.out))).mono ?_
            rintro e W'' ⟨rfl, h2⟩
            clear d1 d2 d3 JN JF
            have hF3 : W''.heap[W1.heap.size]? = some (.cells #[.string f2] 9 (0, 0)) := by rw [h2.block _ (ltOf F2.out)]; exact F2.out
            have hJ3 : W''.heap[W1.heap.size + 1]? = some (.cells #[.string o1] 9 (0, 0)) := by rw [h2.block _ (ltOf J2.out)]; exact J2.out
            have cc3 : W''.cell? ⟨W1.heap.size + 1, 0, none⟩ = some (.string o1) := by rw [cellOf hJ3]; rfl
            have ff3 : W''.frozen? ⟨W1.heap.size + 1, 0, none⟩ = false := frozenOf hJ3 0
            have H3 := Lib.hid h2
            have F3 := Lib.hid hF3
            have J3 := Lib.hid hJ3
            clear h2 hF3 hJ3 cc2 ff2
            obtain ⟨o2, ho2⟩ : ∃ o2, nodeB a1 o1 = o2 := ⟨_, rfl⟩
            rw [if_pos trivial, ho2]
            have HO2 := Lib.hid ho2
            clear ho2
            gi_wp2
            have hU3 : Upd (fun k => k = W1.heap.size ∨ k = W1.heap.size + 1) W (W''.setCell ⟨W1.heap.size + 1, 0, none⟩ (.string o2)) := ((U2.out.mono (fun _ _ h => .inl h)).trans (Upd.of_below (S := fun _ => False) H3.out) (fun _ _ h => h.elim)).setCell _ _ (.inl (.inr rfl))
            exact ⟨keepsFrom_of_upd hU3 (fun k hk => by have hk' : k = W1.heap.size ∨ k = W1.heap.size + 1 := hk; have := HSZ.out; omega), KeepT.of_upd hU3 (fun k hk => ⟨by have := HU.out.size; have := HSZ.out; omega, fun e => by have hk' : k = W1.heap.size ∨ k = W1.heap.size + 1 := e; omega⟩), by rw [setNe (by omega), HSF.out, if_pos trivial]; have := F3.out; rw [← HF2.out] at this; exact this, by rw [setOf_ J3.out 0 _, HSN.out, ← HO2.out]; rfl, HU.out.trans hU3 (fun _ _ h => h)⟩
        case done =>
          rintro D ys W hD rfl ⟨hh, hj, hU⟩ hK
          have hcc : W.cell? ⟨W1.heap.size, 0, none⟩ = some (.string (Dig.first nodeB old acc)) := by rw [cellOf hh, firstF_all]; rfl
          have hcj : W.cell? ⟨W1.heap.size + 1, 0, none⟩ = some (.string (Dig.value nodeB old acc)) := by rw [cellOf hj, joinF_all]; rfl
          have HU := Lib.hid hU
          have HK := Lib.hid hK
          clear hh hj hU hK
          obtain ⟨fv, hfv⟩ : ∃ fv, Dig.first nodeB old acc = fv := ⟨_, rfl⟩
          obtain ⟨vv, hvv⟩ : ∃ vv, Dig.value nodeB old acc = vv := ⟨_, rfl⟩
          rw [hfv] at hcc
          rw [hvv] at hcj
          have HFV := Lib.hid hfv
          have HVV := Lib.hid hvv
          clear hfv hvv
          have hW : Below w.heap.size w W := HB4.out.trans (HU.out.below' (by have := HSZ.out; omega) (by intro i hi h; have h' : i = W1.heap.size ∨ i = W1.heap.size + 1 := h; omega))
          have hF := hW.trans (belowK_b (w := w) (Nat.le_refl _) W D (.deferred (some [])) (.deferred none) (by have := HSZ.out; omega) HK.out rfl rfl)
          have HF := Lib.hid hF
          clear hW hF
          cases t with
          | nil =>
            rw [show ([] : List ByteArray).length = 0 from rfl]
            have EV : Hid (endEB old root (wayEB n m P.reverse true) = ((fv.toList == old.toList) && (vv.toList == root.toList))) := Lib.hid (by rw [EE.out, ← beq_toListBytes, ← beq_toListBytes, ← HFV.out, ← HVV.out]; rfl)
            cases e1 : (fv.toList == old.toList) with
            | false =>
              rw [e1] at EV
              go_wp2
              refine ⟨by simp, .inl ⟨_, _, rfl, run_takeDeferred HK.out, ?_⟩⟩
              exact ⟨_, results_tmp rfl _ _ _, by rw [EV.out]; rfl, HF.out⟩
            | true =>
              rw [e1] at EV
              go_wp2
              refine ⟨by simp, .inl ⟨_, _, rfl, run_takeDeferred HK.out, ?_⟩⟩
              exact ⟨_, results_tmp rfl _ _ _, by rw [EV.out]; rfl, HF.out⟩
          | cons y t =>
            have EV : Hid (endEB old root (wayEB n m P.reverse true) = false) := Lib.hid (by rw [EE.out]; rfl)
            have hb0 : (((y :: t).length : Int) == 0) = false := beq_false_of_ne (by simp; omega)
            generalize (y :: t).length = tl at *
            go_wp2
            refine ⟨by simp, .inl ⟨_, _, rfl, run_takeDeferred HK.out, ?_⟩⟩
            exact ⟨_, results_tmp rfl _ _ _, by rw [EV.out]; rfl, HF.out⟩
        case stop =>
          rintro D c pre W _ _ h _
          exact h.elim
      | false =>
        match t, htl, EE, HT32, hsl, hpl with
        | [], htl, EE, HT32, hsl, hpl =>
          obtain ⟨pa, pc, hpv, _, _⟩ := hsl.form
          have EN : Hid (endEB old root (wayEB n m P.reverse true) = false) := Lib.hid (by rw [EE.out]; rfl)
          subst hpv
          clear hsl hpl h1'
          rw [show ([] : List ByteArray).reverse.length = 0 from rfl]
          go_wp2
          exact ⟨_, results_tmp rfl _ _ _, by rw [EN.out]; rfl, (BW1.out.alloc BW1.out.size _).alloc (by simp; omega) _⟩
        | r0 :: r1 :: t, htl, EE, HT32, hsl, hpl =>
          obtain ⟨pa, pc, hpv, _, _⟩ := hsl.form
          have EN : Hid (endEB old root (wayEB n m P.reverse true) = false) := Lib.hid (by rw [EE.out]; rfl)
          have hb0 : (((r0 :: r1 :: t).length : Int) == 1) = false := beq_false_of_ne (by simp; omega)
          rw [hpl] at hpv
          subst hpv
          clear hsl hpl h1'
          generalize (r0 :: r1 :: t).length = tl at *
          go_wp2
          exact ⟨_, results_tmp rfl _ _ _, by rw [EN.out]; rfl, (BW1.out.alloc BW1.out.size _).alloc (by simp; omega) _⟩
        | [r0], htl, EE, HT32, hsl, hpl =>
          obtain ⟨b, off, c, rfl, hc, hb, hcs⟩ := hsl.out (by simp)
          have hc0 : W1.cell? ⟨b, off, none⟩ = some (.string r0) := (BW1.out.cell (p := ⟨b, off, none⟩) hb).trans (by have := hcs 0 r0 rfl; rwa [Nat.add_zero] at this)
          have hbl : b < W1.heap.size := by omega
          have hr0 := HT32.out r0 (by simp)
          rw [show ([r0] : List ByteArray).reverse.length = 1 from rfl] at hc ⊢
          clear hsl hpl h1' hcs
          go_wp2
          go_region_held3 (fun w' => w'.cell? ⟨b, off, none⟩ = some (.string r0)) ((first | exact hc0 | go_keep)) (fail)
          go_wp2_with fail
          refine (BackS_any _ rfl _).mono ?_
          rintro e W4 ⟨rfl, hW4⟩
          obtain ⟨hBo, hBp, hBs, hsz, hcell, hB4⟩ := box3d hW4 BW1.out
          have hR0 : (r0).size = 32 := by assumption
          have hcs4 : ∀ j u, (sidesV acc)[j]? = some u → W4.cell? ⟨g, 0 + j, none⟩ = some u := fun j u hj => hcell ⟨g, 0 + j, none⟩ u hgl (HGC.out j u hj)
          have hR4 : RoundLaid W4 := HR.out.below hB4
          have HBo := Lib.hid hBo
          have HBp := Lib.hid hBp
          have HBs := Lib.hid hBs
          have HB4 := Lib.hid hB4
          have HSZ := Lib.hid hsz
          have HCS4 := Lib.hid hcs4
          have HR4 := Lib.hid hR4
          clear hW4 hBo hBp hBs hB4 hsz hcs4 hR4 HGC hcell
          go_wp2
          refine (wpIn_wide (n := 9)).1 ?_
          refine rangeH rfl (by omega) (gf := 88) (lb := #[.pointer (some ⟨W1.heap.size + 2, 0, none⟩)]) rfl trivial (enters_of Tryd.func88 (by kernel_rfl) rfl)
            (backS_stops 8 (by omega) (W1.heap.size + 2) g 0 gc acc (by omega) W4 _ _ ga (fun h => (HGA.out h).1) HBs.out (fun _ => by have := HSZ.out; omega) HCS4.out) KeepT.trans (KeepT.putObj (by have := HSZ.out; intro k hk; omega)) (Below.refl _ _) (fun _ => rfl)
            (fun (pre : List (Fin acc.length)) W => W.heap[W1.heap.size]? = some (.cells #[.string (firstF acc pre r0)] 9 (0, 0)) ∧ W.heap[W1.heap.size + 1]? = some (.cells #[.string (joinF acc pre r0)] 9 (0, 0)) ∧ Upd (fun k => k = W1.heap.size ∨ k = W1.heap.size + 1) W4 W)
            (fun _ _ _ => False)
            (OwnFrom.and (ownFrom_at W1.heap.size (fun pre => .cells #[.string (firstF acc pre r0)] 9 (0, 0)) (by have := HSZ.out; omega)) (OwnFrom.and (ownFrom_at (W1.heap.size + 1) (fun pre => .cells #[.string (joinF acc pre r0)] 9 (0, 0)) (by have := HSZ.out; omega)) (ownFrom_upd (Nat.le_refl _))))
            (fun _ _ _ _ _ hs _ _ => hs)
            ⟨HBo.out, HBp.out, Upd.refl _ _⟩
            (fun x => .cells #[.string acc[x].1, .bool acc[x].2] 75 (0, 0)) (fun _ => rfl)
            (fun x Bx T => ((T.setIfInBounds 114 (.int .i64 (x.1 : Int))).setIfInBounds 115 (sideA acc[x])).setIfInBounds 20 (.pointer (some ⟨Bx, 0, none⟩))) ?assign2 (fun _ _ h => h.2.2.size) ?body2 ?done2 ?stop2
          case assign2 =>
            intro l pre x W K hsW hI hK
            have HI := Lib.hid hI
            have HK := Lib.hid hK
            clear hI hK
            unfold sideA at HK ⊢
            generalize acc[x] = ax at *
            obtain ⟨a1, a2⟩ := ax
            dsimp only at *
            gi_wp2
            have hk := HK.out W.heap.size (W.alloc (.cells #[.string a1, .bool a2] 75)) hsW
            simp only [List.setIfInBounds_toArray, List.set_cons_zero, List.set_cons_succ] at hk
            have hU : Upd (fun _ => False) W (W.alloc (.cells #[.string a1, .bool a2] 75)) := (Upd.refl _ W).alloc _
            exact hk (keepsFrom_of_upd hU (fun _ h => h.elim)) (KeepT.of_upd hU (fun k hk => ⟨by have := HSZ.out; omega, fun h => h⟩)) ⟨by rw [allocOld (ltOf HI.out.1)]; exact HI.out.1, by rw [allocOld (ltOf HI.out.2.1)]; exact HI.out.2.1, HI.out.2.2.alloc _⟩ (allocAt _ rfl)
          case body2 =>
            rintro l pre x Bx W hbx hobx ⟨hh, hj, hU⟩ hlt
            have HX := Lib.hid hobx
            have HH := Lib.hid hh
            have HJ := Lib.hid hj
            have HU := Lib.hid hU
            have hbne : W1.heap.size + 1 < Bx := by have := HSZ.out; omega
            have hcc : W.cell? ⟨W1.heap.size, 0, none⟩ = some (.string (firstF acc pre r0)) := by rw [cellOf hh]; rfl
            have hcj : W.cell? ⟨W1.heap.size + 1, 0, none⟩ = some (.string (joinF acc pre r0)) := by rw [cellOf hj]; rfl
            have hx1 : W.cell? ⟨Bx, 0, none⟩ = some (.string acc[x].1) := by rw [cellOf hobx]; rfl
            have hx2 : W.cell? ⟨Bx, 1, none⟩ = some (.bool acc[x].2) := by rw [cellOf hobx]; rfl
            clear hh hj hU hobx
            have hbs := joinF_size acc pre r0 hR0
            have hbf := firstF_size acc pre r0 hR0
            have hx32 := HA32.out acc[x] (List.getElem_mem x.2)
            have JN := Lib.hid (fun W (h : RoundLaid W) => join_any acc[x].1 (joinF acc pre r0) acc[x].2 (by omega) W h)
            have JF := Lib.hid (fun W (h : RoundLaid W) => join_any acc[x].1 (firstF acc pre r0) acc[x].2 (by omega) W h)
            have HSN := Lib.hid (joinF_snoc acc pre x r0)
            have HSF := Lib.hid (firstF_snoc acc pre x r0)
            have HRW := Lib.hid (HR4.out.upd HU.out (by omega))
            simp only [List.setIfInBounds_toArray, List.set_cons_zero, List.set_cons_succ]
            unfold sideA
            generalize joinF acc pre r0 = o1 at *
            generalize firstF acc pre r0 = f1 at *
            generalize acc[x] = ax at *
            obtain ⟨a1, a2⟩ := ax
            dsimp only at *
            cases a2 with
            | false =>
              gi_wp2
              refine ⟨trivial, ?_⟩
              refine (CallsIn.inRound l (callsIn_wide.2 (JN.out W HRW.out))).mono ?_
              rintro e W' ⟨rfl, h2⟩
              have hh2 : W'.heap[W1.heap.size]? = some (.cells #[.string f1] 9 (0, 0)) := by rw [h2.block _ (ltOf HH.out)]; exact HH.out
              have hj2 : W'.heap[W1.heap.size + 1]? = some (.cells #[.string o1] 9 (0, 0)) := by rw [h2.block _ (ltOf HJ.out)]; exact HJ.out
              have cc2 : W'.cell? ⟨W1.heap.size + 1, 0, none⟩ = some (.string o1) := by rw [cellOf hj2]; rfl
              have ff2 : W'.frozen? ⟨W1.heap.size + 1, 0, none⟩ = false := frozenOf hj2 0
              have H2 := Lib.hid h2
              have HH2 := Lib.hid hh2
              have HJ2 := Lib.hid hj2
              clear h2 hh2 hj2
              obtain ⟨o2, ho2⟩ : ∃ o2, (if (false = true) then nodeB a1 o1 else nodeB o1 a1) = o2 := ⟨_, rfl⟩
              rw [ho2]
              have HO2 := Lib.hid ho2
              clear ho2
              gi_wp2
              have hU3 : Upd (fun k => k = W1.heap.size ∨ k = W1.heap.size + 1) W (W'.setCell ⟨W1.heap.size + 1, 0, none⟩ (.string o2)) := (Upd.of_below H2.out).setCell _ _ (.inl (.inr rfl))
              exact ⟨keepsFrom_of_upd hU3 (fun k hk => by have hk' : k = W1.heap.size ∨ k = W1.heap.size + 1 := hk; have := HSZ.out; omega), KeepT.of_upd hU3 (fun k hk => ⟨by have := HU.out.size; have := HSZ.out; omega, fun e => by have hk' : k = W1.heap.size ∨ k = W1.heap.size + 1 := e; omega⟩), by rw [setNe (by omega), HSF.out]; exact HH2.out, by rw [setOf_ HJ2.out 0 _, HSN.out, ← HO2.out]; rfl, HU.out.trans hU3 (fun _ _ h => h)⟩
            | true =>
              gi_wp2
              refine ⟨trivial, ?_⟩
              refine (CallsIn.inRound l (callsIn_wide.2 (JF.out W HRW.out))).mono ?_
              rintro e W' ⟨rfl, h2⟩
              have hh2 : W'.heap[W1.heap.size]? = some (.cells #[.string f1] 9 (0, 0)) := by rw [h2.block _ (ltOf HH.out)]; exact HH.out
              have cc2 : W'.cell? ⟨W1.heap.size, 0, none⟩ = some (.string f1) := by rw [cellOf hh2]; rfl
              have ff2 : W'.frozen? ⟨W1.heap.size, 0, none⟩ = false := frozenOf hh2 0
              have H2 := Lib.hid h2
              have HH2 := Lib.hid hh2
              clear h2 hh2
              obtain ⟨f2, hf2⟩ : ∃ f2, nodeB a1 f1 = f2 := ⟨_, rfl⟩
              rw [if_pos trivial, hf2]
              have HF2 := Lib.hid hf2
              clear hf2
              have hU2 : Upd (fun k => k = W1.heap.size) W (W'.setCell ⟨W1.heap.size, 0, none⟩ (.string f2)) := (Upd.of_below H2.out).setCell _ _ (.inl rfl)
              have hf : (W'.setCell ⟨W1.heap.size, 0, none⟩ (.string f2)).heap[W1.heap.size]? = some (.cells #[.string f2] 9 (0, 0)) := by rw [setOf_ HH2.out 0 _]; rfl
              have hjx := hU2.at HJ.out (by omega)
              have hxx := hU2.at HX.out (by omega)
              have hrx : RoundLaid (W'.setCell ⟨W1.heap.size, 0, none⟩ (.string f2)) := HRW.out.upd hU2 (by omega)
              have U2 := Lib.hid hU2
              have F2 := Lib.hid hf
              have J2 := Lib.hid hjx
              have X2 := Lib.hid hxx
              have R2 := Lib.hid hrx
              have d1 : (W'.setCell ⟨W1.heap.size, 0, none⟩ (.string f2)).cell? ⟨W1.heap.size + 1, 0, none⟩ = some (.string o1) := by rw [cellOf hjx]; rfl
              have d2 : (W'.setCell ⟨W1.heap.size, 0, none⟩ (.string f2)).cell? ⟨Bx, 0, none⟩ = some (.string a1) := by rw [cellOf hxx]; rfl
              have d3 : (W'.setCell ⟨W1.heap.size, 0, none⟩ (.string f2)).cell? ⟨Bx, 1, none⟩ = some (.bool true) := by rw [cellOf hxx]; rfl
              clear hU2 hf hjx hxx hrx hcc hcj hx1 hx2
              gi_wp2
              refine ⟨trivial, ?_⟩
              refine (CallsIn.inRound l (callsIn_wide.2 (JN.out _ R2.out))).mono ?_
              rintro e W'' ⟨rfl, h2⟩
              clear d1 d2 d3 JN JF
              have hF3 : W''.heap[W1.heap.size]? = some (.cells #[.string f2] 9 (0, 0)) := by rw [h2.block _ (ltOf F2.out)]; exact F2.out
              have hJ3 : W''.heap[W1.heap.size + 1]? = some (.cells #[.string o1] 9 (0, 0)) := by rw [h2.block _ (ltOf J2.out)]; exact J2.out
              have cc3 : W''.cell? ⟨W1.heap.size + 1, 0, none⟩ = some (.string o1) := by rw [cellOf hJ3]; rfl
              have ff3 : W''.frozen? ⟨W1.heap.size + 1, 0, none⟩ = false := frozenOf hJ3 0
              have H3 := Lib.hid h2
              have F3 := Lib.hid hF3
              have J3 := Lib.hid hJ3
              clear h2 hF3 hJ3 cc2 ff2
              obtain ⟨o2, ho2⟩ : ∃ o2, nodeB a1 o1 = o2 := ⟨_, rfl⟩
              rw [if_pos trivial, ho2]
              have HO2 := Lib.hid ho2
              clear ho2
              gi_wp2
              have hU3 : Upd (fun k => k = W1.heap.size ∨ k = W1.heap.size + 1) W (W''.setCell ⟨W1.heap.size + 1, 0, none⟩ (.string o2)) := ((U2.out.mono (fun _ _ h => .inl h)).trans (Upd.of_below (S := fun _ => False) H3.out) (fun _ _ h => h.elim)).setCell _ _ (.inl (.inr rfl))
              exact ⟨keepsFrom_of_upd hU3 (fun k hk => by have hk' : k = W1.heap.size ∨ k = W1.heap.size + 1 := hk; have := HSZ.out; omega), KeepT.of_upd hU3 (fun k hk => ⟨by have := HU.out.size; have := HSZ.out; omega, fun e => by have hk' : k = W1.heap.size ∨ k = W1.heap.size + 1 := e; omega⟩), by rw [setNe (by omega), HSF.out, if_pos trivial]; have := F3.out; rw [← HF2.out] at this; exact this, by rw [setOf_ J3.out 0 _, HSN.out, ← HO2.out]; rfl, HU.out.trans hU3 (fun _ _ h => h)⟩
          case done2 =>
            rintro D ys W hD rfl ⟨hh, hj, hU⟩ hK
            have hcc : W.cell? ⟨W1.heap.size, 0, none⟩ = some (.string (Dig.first nodeB r0 acc)) := by rw [cellOf hh, firstF_all]; rfl
            have hcj : W.cell? ⟨W1.heap.size + 1, 0, none⟩ = some (.string (Dig.value nodeB r0 acc)) := by rw [cellOf hj, joinF_all]; rfl
            have HU := Lib.hid hU
            have HK := Lib.hid hK
            clear hh hj hU hK
            obtain ⟨fv, hfv⟩ : ∃ fv, Dig.first nodeB r0 acc = fv := ⟨_, rfl⟩
            obtain ⟨vv, hvv⟩ : ∃ vv, Dig.value nodeB r0 acc = vv := ⟨_, rfl⟩
            rw [hfv] at hcc
            rw [hvv] at hcj
            have HFV := Lib.hid hfv
            have HVV := Lib.hid hvv
            clear hfv hvv
            have hW : Below w.heap.size w W := HB4.out.trans (HU.out.below' (by have := HSZ.out; omega) (by intro i hi h; have h' : i = W1.heap.size ∨ i = W1.heap.size + 1 := h; omega))
            have hF := hW.trans (belowK_b (w := w) (Nat.le_refl _) W D (.deferred (some [])) (.deferred none) (by have := HSZ.out; omega) HK.out rfl rfl)
            have HF := Lib.hid hF
            clear hW hF
            have EV : Hid (endEB old root (wayEB n m P.reverse true) = ((fv.toList == old.toList) && (vv.toList == root.toList))) := Lib.hid (by rw [EE.out, ← beq_toListBytes, ← beq_toListBytes, ← HFV.out, ← HVV.out]; rfl)
            cases e1 : (fv.toList == old.toList) with
            | false =>
              rw [e1] at EV
              go_wp2
              refine ⟨by simp, .inl ⟨_, _, rfl, run_takeDeferred HK.out, ?_⟩⟩
              exact ⟨_, results_tmp rfl _ _ _, by rw [EV.out]; rfl, HF.out⟩
            | true =>
              rw [e1] at EV
              go_wp2
              refine ⟨by simp, .inl ⟨_, _, rfl, run_takeDeferred HK.out, ?_⟩⟩
              exact ⟨_, results_tmp rfl _ _ _, by rw [EV.out]; rfl, HF.out⟩
          case stop2 =>
            rintro D c pre W _ _ h _
            exact h.elim

theorem VE_any (w : World) (old root : ByteArray) (m n : Int) (pv : Value) (P : List ByteArray) (hsl : SL w pv P) (hlen : P.length ≤ 1000000) (hs : ∀ s ∈ P, s.size ≤ 9223372036854775807) (ho : old.size ≤ 9223372036854775807) (hr : root.size ≤ 9223372036854775807) (hn : n ≤ 9223372036854775807) (hR : RoundLaid w) :
    Calls Tryd.prog 24 #[.string old, .int .i64 m, .string root, .int .i64 n, pv] w fun e w' => e = .returned (.bool (verEB old m root n P)) ∧ Below w.heap.size w w' := by
  by_cases h : 0 ≤ m ∧ m ≤ n
  · have e0 : fineE old m root n P = (allD P && (old.size == 32) && (root.size == 32)) := by
      unfold fineE; rw [decide_eq_true h.1, decide_eq_true h.2]; rfl
    cases hd : (allD P && (old.size == 32) && (root.size == 32)) with
    | false =>
      refine (VE_odd w old root m n pv P hsl hlen hs ho hr h.1 h.2 hd).mono ?_
      rintro e w' ⟨rfl, rfl⟩
      exact ⟨ret_bool (by rw [verEB, e0, hd]; rfl), Below.refl _ _⟩
    | true =>
      have hd1 : allD P = true := by simp only [Bool.and_eq_true] at hd; exact hd.1.1
      have ho1 : old.size = 32 := by simp only [Bool.and_eq_true] at hd; simpa using hd.1.2
      have hr1 : root.size = 32 := by simp only [Bool.and_eq_true] at hd; simpa using hd.2
      by_cases hm0 : m = 0
      · subst hm0
        refine (VE_zero w old root pv P hsl hlen hd1 ho1 hr1 n h.2 hR).mono ?_
        rintro e w' ⟨rfl, hb⟩
        exact ⟨ret_bool (by rw [verEB, e0, hd, if_pos rfl]; rfl), hb⟩
      · by_cases hmn : m = n
        · subst hmn
          refine (VE_same w old root pv P hsl hlen hd1 ho1 hr1 m (by omega)).mono ?_
          rintro e w' ⟨rfl, hb⟩
          exact ⟨ret_bool (by rw [verEB, e0, hd, if_neg hm0, if_pos rfl]; rfl), hb⟩
        · obtain ⟨M, rfl⟩ := Int.eq_ofNat_of_zero_le h.1
          obtain ⟨N, rfl⟩ := Int.eq_ofNat_of_zero_le (show 0 ≤ n by omega)
          refine (VE_main w old root pv P hsl hlen hd1 ho1 hr1 N M (by omega) (by omega) (by omega) hR).mono ?_
          rintro e w' ⟨rfl, hb⟩
          exact ⟨ret_bool (by rw [verEB, e0, hd, if_neg hm0, if_neg hmn]; rfl), hb⟩
  · refine (VE_range w old root m n pv h).mono ?_
    rintro e w' ⟨rfl, rfl⟩
    refine ⟨ret_bool ?_, Below.refl _ _⟩
    rw [verEB, fineE]
    have : (decide (0 ≤ m) && decide (m ≤ n)) = false := by simpa using h
    rw [this]; rfl
end Go.Proofs.YtljgphmdiflphaaDoor
namespace Go.Proofs.YtljgphmdiflphaaDoor
open Go.RowKit
set_option linter.unusedVariables false

def hexC : ByteArray := ⟨#[48, 49, 50, 51, 52, 53, 54, 55, 56, 57, 97, 98, 99, 100, 101, 102]⟩
def hexS (o : ByteArray) (c : UInt8) : ByteArray := o ++ hexC.extract (c.toNat / 16) (c.toNat / 16 + 1) ++ hexC.extract (c.toNat % 16) (c.toNat % 16 + 1)
def hexB (l : List UInt8) : ByteArray := l.foldl hexS ⟨#[]⟩
theorem hexB_snoc (l : List UInt8) (c : UInt8) : hexB (l ++ [c]) = hexS (hexB l) c := by simp [hexB]
theorem hexS_size (o : ByteArray) (c : UInt8) : (hexS o c).size ≤ o.size + 2 := by
  have h : hexC.size = 16 := rfl
  unfold hexS
  simp only [ByteArray.size_append, ByteArray.size_extract]
  omega
theorem hexB_size : ∀ l : List UInt8, (hexB l).size ≤ 2 * l.length := by
  intro l
  rcases snoc_cases l with rfl | ⟨p, x, rfl⟩
  · exact Nat.le_refl _
  · have h1 := hexB_size p
    have h2 := hexS_size (hexB p) x
    rw [hexB_snoc]; simp; omega
termination_by l => l.length
decreasing_by simp_all
theorem below_drewN {b : Nat} {w w' : World} (h : Below b w w') (n : Nat) : Below b w (w'.drewN n) := ⟨h.os, h.tape, h.output, h.size, h.block⟩
theorem take_snocB (s : ByteArray) (k : Nat) (h : k < s.size) : s.data.toList.take (k + 1) = s.data.toList.take k ++ [s[k]] := by
  rw [List.take_succ_eq_append_getElem (by simpa using h)]; rfl

set_option maxHeartbeats 1000000 in
theorem hex_any (s : ByteArray) (hs : s.size ≤ 1000000) (w : World) :
    Calls Tryd.prog 52 #[.string s] w fun e w' => e = .returned (.string (hexB s.data.toList)) ∧ Below w.heap.size w w' := by
  go_enter Tryd.func52, Tryd.ntmps52
  go_wp2
  go_loopw [3, 4] (fun ov iv wr => ∃ (k : Nat), iv = .int .i64 k ∧ k ≤ s.size ∧ ov = .string (hexB (s.data.toList.take k)) ∧ Below w.heap.size w wr) (fun _ iv _ => s.size - (intOf iv).toNat)
  case atStart => exact ⟨0, rfl, Nat.zero_le _, rfl, Below.refl _ _⟩
  case round =>
    obtain ⟨k, rfl, hk, rfl, hb⟩ := hrel
    have HB := Lib.hid hb
    clear hb
    by_cases h1 : k < s.size
    · have hsz := hexB_size (s.data.toList.take k)
      have hln : (s.data.toList.take k).length ≤ k := List.length_take_le _ _
      have HS := Lib.hid ((congrArg hexB (take_snocB s k h1)).trans (hexB_snoc _ _))
      generalize hexB (s.data.toList.take k) = o at *
      have hsz' : o.size ≤ 2000000 := by omega
      clear hsz hln
      have hlt : (k : Int) < (s.size : Int) := by omega
      obtain ⟨p, hp⟩ : ∃ p, s[k].toNat / 16 = p := ⟨_, rfl⟩
      obtain ⟨q, hq⟩ : ∃ q, s[k].toNat % 16 = q := ⟨_, rfl⟩
      have hy : s[k].toNat < 256 := s[k].toNat_lt
      have p1 : (s[k].toNat : Int) / 16 % 256 = (p : Int) := by omega
      have p2 : ((p : Int) + 1) % 256 = (p : Int) + 1 := by omega
      have p3 : (p : Int) ≤ 15 := by omega
      have q1 : (s[k].toNat : Int) % 16 % 256 = (q : Int) := by omega
      have q2 : ((q : Int) + 1) % 256 = (q : Int) + 1 := by omega
      have q3 : (q : Int) ≤ 15 := by omega
      have q4 : (s[k].toNat : Int) % 16 = (q : Int) := by omega
      have HSS : Hid (hexS o s[k] = o ++ hexC.extract p (p + 1) ++ hexC.extract q (q + 1)) := Lib.hid (by unfold hexS; rw [hp, hq])
      go_wp2
      go_quiet (fail)
      go_wp2
      go_roundw
      case rel => 
        first | refine ⟨k + 1, by go_num, by omega, ?_, below_drewN HB.out _⟩ | ((repeat apply Exists.intro); refine ⟨⟨k + 1, by go_num, by omega, ?_, below_drewN HB.out _⟩, rfl⟩)
        rw [HS.out, HSS.out]; rfl
      case measure => simp [intOf]; omega
    · have hge : s.data.toList.take k = s.data.toList := List.take_of_length_le (by simp; show s.size ≤ k; omega)
      have HGE := Lib.hid hge
      clear hge
      go_wp2
      go_ret
      exact ⟨by rw [HGE.out]; rfl, HB.out⟩

def binN (n : Nat) : Nat := if n = 0 then 0 else binN (n / 2) + 1
theorem binN_pos (n : Nat) (h : 0 < n) : binN n = binN (n / 2) + 1 := by rw [binN, if_neg (by omega)]
theorem binN_le (n : Nat) : binN n ≤ n := by
  induction n using Nat.strongRecOn with
  | ind n ih =>
    rw [binN]; split
    · omega
    · have := ih (n / 2) (by omega); omega

set_option maxHeartbeats 1000000 in
theorem binary_any (n : Nat) (h63 : n ≤ 1000000) (w : World) :
    Calls Tryd.prog 22 #[.int .i64 (n : Int)] w fun e w' => e = .returned (.int .i64 (binN n : Nat)) ∧ w = w' := by
  go_enter Tryd.func22, Tryd.ntmps22
  go_wp2
  go_loop [0, 3] (fun nv kv => ∃ (m k : Nat), nv = .int .i64 m ∧ kv = .int .i64 k ∧ m ≤ n ∧ k + binN m = binN n) (fun nv _ => (intOf nv).toNat)
  case atStart => exact ⟨n, 0, rfl, rfl, Nat.le_refl _, by omega⟩
  case round =>
    obtain ⟨m, k, rfl, rfl, hm, hk⟩ := hrel
    have hbl := binN_le n
    have hkn : k ≤ n := by omega
    have HK := Lib.hid hk
    clear hk hbl
    by_cases h0 : 0 < m
    · have hs := Lib.hid (binN_pos m h0)
      obtain ⟨m2, hm2⟩ : ∃ m2, m / 2 = m2 := ⟨_, rfl⟩
      rw [hm2] at hs
      have ht : (m : Int) / 2 = (m2 : Int) := by omega
      go_wp2
      go_round
      case rel => exact ⟨m2, k + 1, by first | rfl | (rw [ht]; done) | go_num, by go_num, by omega, by have := hs.out; have := HK.out; omega⟩
      case measure => simp [intOf]; omega
    · have h1 : m = 0 := by omega
      subst h1
      have h2 : Hid (k = binN n) := Lib.hid (by rw [← HK.out, binN]; simp)
      go_wp2
      go_ret
      exact ⟨ret_int (by rw [h2.out]), rfl⟩
end Go.Proofs.YtljgphmdiflphaaDoor
namespace Go.Proofs.YtljgphmdiflphaaDoor
open Go.RowKit
set_option linter.unusedVariables false

def cut60 (s : ByteArray) : ByteArray := s.extract 0 (min s.size 60)
theorem cut60_size (s : ByteArray) : (cut60 s).size ≤ 60 := by unfold cut60; simp only [ByteArray.size_extract]; omega
def fewB (l : List ByteArray) (n : Nat) : List ByteArray := (l.take n).map cut60
theorem fewB_snoc (l : List ByteArray) (k : Nat) (h : k < l.length) : fewB l (k + 1) = fewB l k ++ [cut60 l[k]] := by
  unfold fewB; rw [List.take_succ_eq_append_getElem h, List.map_append]; rfl
theorem fewB_length (l : List ByteArray) (n : Nat) : (fewB l n).length = min n l.length := by simp [fewB]
theorem fewB_small (l : List ByteArray) (n : Nat) : ∀ s ∈ fewB l n, s.size ≤ 60 := by
  intro s hs
  obtain ⟨x, _, rfl⟩ := List.mem_map.1 hs
  exact cut60_size x

set_option maxHeartbeats 2000000 in
set_option maxRecDepth 100000 in
theorem few_any (w : World) (sv : Value) (l : List ByteArray) (hsl : SL w sv l) (hlen : l.length ≤ 9223372036854775807) (hs : ∀ s ∈ l, s.size ≤ 9223372036854775807) (n : Nat) (hn : n ≤ 1000) :
    Calls Tryd.prog 14 #[sv, .int .i64 (n : Int)] w fun e w' => ∃ v, e = .returned v ∧ w'.ownsRow w.heap.size 9 1 v (fewB l n).length (strV (fewB l n)) ∧ Below w.heap.size w w' := by
  obtain ⟨i9, hi9, hz9, hy9, hb9⟩ := info_parts Tryd.infoStr
  obtain ⟨a, cap, rfl, hcp, hne⟩ := hsl.form
  have HNE := Lib.hid hne
  have HS := Lib.hid hs
  clear hne hs hsl
  go_enter Tryd.func14, Tryd.ntmps14
  go_wp2
  go_loopw [5, 6] (fun ov iv wr => ∃ (k : Nat), iv = .int .i64 k ∧ k ≤ l.length ∧ k ≤ n ∧ wr.ownsRow w.heap.size 9 1 ov k (strV (fewB l k)) ∧ Below w.heap.size w wr) (fun _ iv _ => l.length - (intOf iv).toNat)
  case atStart => exact ⟨0, rfl, Nat.zero_le _, Nat.zero_le _, World.ownsRow_nil _ _ _ _, Below.refl _ _⟩
  case round =>
    obtain ⟨k, rfl, hk, hkn, hown, hb⟩ := hrel
    have HB := Lib.hid hb
    have HO := Lib.hid hown
    clear hb hown
    by_cases h1 : k < l.length
    · by_cases h2 : k < n
      · obtain ⟨b, off, rfl, hbl, hcs⟩ := HNE.out (by omega)
        have hcx : wr.cell? ⟨b, off + k, none⟩ = some (.string l[k]) := (HB.out.cell (p := ⟨b, off + k, none⟩) hbl).trans (hcs k l[k] (by simp))
        have hsz := HS.out l[k] (List.getElem_mem h1)
        have SN := Lib.hid (fewB_snoc l k h1)
        obtain ⟨mn, hmn⟩ : ∃ mn, min l[k].size 60 = mn := ⟨_, rfl⟩
        have hm : min (l[k].size : Int) 60 = (mn : Int) := by omega
        have hm1 : (mn : Int) ≤ (l[k].size : Int) := by omega
        have CU : Hid (cut60 l[k] = l[k].extract 0 mn) := Lib.hid (by rw [← hmn]; rfl)
        generalize hll : l[k] = x at *
        clear hcs HNE hll hmn
        go_wp2
        go_region_law (refine step_append_lies _ (by rfl) _ _ _ (by rfl) w.heap.size 9 i9 _ 1 16 Tryd.underlying22 hi9 hz9 hy9 hb9 rfl (by omega) u5 k _ (by rfl) (by first | exact (HO.out.alloc _).drew | exact HO.out.drew.alloc _ | exact HO.out.alloc _) ⟨wr.heap.size, 0, none⟩ 1 1 [.string (x.extract 0 mn)] (by rfl) (by rfl) (World.news_of_block (cs := #[.string (x.extract 0 mn)]) (t := 9) (fr := (0, 0)) (by first | exact heap_alloc_new _ _ | (rw [drewHeap]; exact heap_alloc_new _ _))) (by simp [Value.oneCell']) (by omega) (by simp only [maxLen]; omega) (by omega) (by have := HB.out.size; simp; omega) (wr.heap.size + 1) (by simp) ?_
                       intro gg c3 W6 hown hgr hat hlt6)
        all_goals
          have O6 := Lib.hid hown
          have B6 : Hid (Below w.heap.size w W6) := Lib.hid ((HB.out.drew.alloc HB.out.size _).grown hgr (by have := HB.out.size; simp; omega) (fun j e => (HO.out.lt j (by first | exact e | simpa using e)).1))
          clear hown hgr hat hlt6
          go_wp2
          refine ⟨⟨k + 1, by go_num, by omega, by omega, ?_, B6.out⟩, by simp [intOf]; omega⟩
          have := O6.out
          rw [SN.out, CU.out]
          simpa [strV] using this
      · have e : fewB l n = fewB l k := by rw [show n = k by omega]
        have hkl : (fewB l k).length = k := by rw [fewB_length]; omega
        have R : Hid (wr.ownsRow w.heap.size 9 1 u5 (fewB l n).length (strV (fewB l n))) := Lib.hid (by rw [e, hkl]; exact HO.out)
        clear e hkl HO HNE HS
        go_wp2
        go_ret
        exact ⟨_, rfl, R.out, HB.out⟩
    · have e : fewB l n = fewB l k := by unfold fewB; rw [List.take_of_length_le (by omega), List.take_of_length_le (by omega)]
      have hkl : (fewB l k).length = k := by rw [fewB_length]; omega
      have R : Hid (wr.ownsRow w.heap.size 9 1 u5 (fewB l n).length (strV (fewB l n))) := Lib.hid (by rw [e, hkl]; exact HO.out)
      clear e hkl HO HNE HS
      go_wp2
      go_ret
      exact ⟨_, rfl, R.out, HB.out⟩
/-- what few hands back reads as a list -/
theorem SL_own {w : World} {base : Nat} {v : Value} {l : List ByteArray} (h : w.ownsRow base 9 1 v l.length (strV l)) : SL w v l := by
  by_cases h0 : 0 < l.length
  · obtain ⟨g, cap, e, h1, h2, h3, h4, h5⟩ := own_form h h0
    refine ⟨_, cap, e, h3, fun _ => ⟨g, 0, rfl, h2, fun j x hj => ?_⟩⟩
    rw [Nat.zero_add]
    exact h5 j _ (by rw [strV, List.getElem?_map, hj]; rfl)
  · have e0 : l = [] := List.eq_nil_of_length_eq_zero (by omega)
    subst e0
    rcases h.2 with ⟨e, _⟩ | ⟨g, c, cur, e, _⟩
    · exact ⟨none, 0, e, Nat.le_refl _, fun h => absurd h (by simp)⟩
    · exact ⟨_, c, e, by simp, fun h => absurd h (by simp)⟩
end Go.Proofs.YtljgphmdiflphaaDoor
namespace Go.Proofs.YtljgphmdiflphaaDoor
open Go.RowKit
set_option linter.unusedVariables false

theorem cell_add {w : World} {b j : Nat} : w.cell? ((⟨b, 0, none⟩ : Addr).add j) = w.cell? ⟨b, j, none⟩ := by
  unfold Addr.add
  by_cases h : j = 0
  · subst h; rfl
  · simp [h]
/-- Appending an own row of strings to an own row of strings. -/
theorem wpList_append_strs {w : World} {ops : Array Oper} {rest : List Oper} {o : Oper} {a : Act} {Q : Exit → Act → World → Prop} (hgd : o.guard = none) (s x : Operand)
    (ho : o.op = .call { callee := .builtin .append, args := #[s, x], argTypes := #[22, 22] }) (base : Nat) (v : Value) (n : Nat) (xs : List ByteArray) (hs : a.eval s = v) (hown : w.ownsRow base 9 1 v n (strV xs))
    (b2 : Nat) (v2 : Value) (m : Nat) (ys : List ByteArray) (hx : a.eval x = v2) (hown2 : w.ownsRow b2 9 1 v2 m (strV ys)) (hn : n + m ≤ 1000000) (hbase : base ≤ w.heap.size)
    (h : ∀ v' w', w'.ownsRow base 9 1 v' (n + m) (strV (xs ++ ys)) → w.grownBy w' v.ownBlock → wpList Tryd.prog ops Q rest (a.put o.dst v') w') : wpList Tryd.prog ops Q (o :: rest) a w := by
  obtain ⟨i0, hi, hz0, hz1, hz2⟩ := info_parts Tryd.infoStr
  have hl : ys.length = m := by have := hown2.1; simpa [strV] using this
  rcases hown2.2 with ⟨e, e0⟩ | ⟨g, cap, cur, e, hb, hg, hnc, hc, hsz, htk⟩
  · subst e
    have hy : ys = [] := List.eq_nil_of_length_eq_zero (by omega)
    subst hy
    refine wpList_append_own_none hgd s x 22 ho base 9 i0 1 Tryd.underlying22 hi v n (strV xs) hs hown hx ?_
    have := h v w (by rw [e0]; simpa using hown) (World.grownBy.refl _ _)
    exact this
  · subst e
    refine wpList_append_own w hgd s x 22 ho base 9 i0 _ 1 16 Tryd.underlying22 hi hz0 hz1 hz2 rfl (by decide) v n (strV xs) hs hown ⟨g, 0, none⟩ m cap (strV ys) hx (by simp [strV]; omega) (fun j u hu => ?_) (fun u hu => ?_) (by simp only [maxLen]; omega) (by omega) hbase (fun v' w' h1 h2 _ => h v' w' (by simpa [strV] using h1) h2)
    · rw [cell_add, cellOf hg, ← hu, ← htk, List.getElem?_take]
      have hj : j < m := by
        rw [List.getElem?_eq_some_iff] at hu
        obtain ⟨hj, _⟩ := hu
        simp [strV] at hj; omega
      rw [if_pos (by omega)]
      simp
    · simp only [strV, List.mem_map] at hu
      obtain ⟨y, _, rfl⟩ := hu
      rfl

/-- a literal slice of strings is an own row -/
theorem own_lit (W : World) (xs : List ByteArray) (base : Nat) (hb : base ≤ W.heap.size) (hl : xs.length ≤ 1000000) : (W.alloc (.cells (strV xs).toArray 9)).ownsRow base 9 1 (.slice (some ⟨W.heap.size, 0, none⟩) xs.length xs.length) xs.length (strV xs) :=
  ⟨by simp [strV], .inr ⟨_, xs.length, _, rfl, hb, allocAt _ rfl, Nat.le_refl _, by simp only [maxLen]; omega, by simp [strV], by simp only [strV, Nat.mul_one]; exact List.take_of_length_le (by simp)⟩⟩

set_option maxHeartbeats 1000000 in
theorem lawLeft_any (n : Nat) (h2 : 2 ≤ n) (hn : n ≤ 9223372036854775807) (w : World) :
    Calls Tryd.prog 30 #[.int .i64 (n : Int)] w fun e w' => e = .returned (.int .i64 (Dig.lft n : Nat)) ∧ w = w' := by
  go_enter Tryd.func30, Tryd.ntmps30
  go_wp2
  go_loop [3] (fun kv => ∃ k : Nat, kv = .int .i64 k ∧ k < n ∧ 0 < k ∧ ∃ j, k = 2 ^ j) (fun kv => n - (intOf kv).toNat)
  case atStart => exact ⟨1, rfl, by omega, by omega, 0, rfl⟩
  case round =>
    obtain ⟨k, rfl, hk, hk0, hj⟩ := hrel
    have HJ := Lib.hid hj
    clear hj
    by_cases h1 : (k : Int) < (n : Int) - (k : Int)
    · go_wp2
      go_round
      case rel => exact ⟨2 * k, by go_num, by omega, by omega, by obtain ⟨j, e⟩ := HJ.out; exact ⟨j + 1, by rw [e, Nat.pow_succ]; omega⟩⟩
      case measure => simp [intOf]; omega
    · have e : Hid (Dig.lft n = k) := Lib.hid (by obtain ⟨j, e⟩ := HJ.out; subst e; exact Dig.lft_unique hk (by omega))
      go_wp2
      go_ret
      exact ⟨ret_int (by rw [e.out]), rfl⟩
end Go.Proofs.YtljgphmdiflphaaDoor
namespace Go.Proofs.YtljgphmdiflphaaDoor
open Go.RowKit
set_option linter.unusedVariables false

theorem run_append_none {P : Program} {w : World} (base : Nat) (t ty e : TypeId) (i : TypeInfo) (size c : Nat) (ht : P.underlying t = some (.slice e)) (hi : P.info? e = some i)
    (v : Value) (n : Nat) (xs : List Value) (hown : w.ownsRow base e size v n xs) :
    (Builtin.append_ #[t, t] ty #[v, .slice none 0 c]).run P w = .ok v w := by
  rcases hown.2 with ⟨rfl, rfl⟩ | ⟨g, cap, cur, rfl, _, _, hnc, _⟩
  · simp [Builtin.append_, run_underlying ht, sizeOf, typeInfo, hi, Builtin.lenOf, Builtin.firstCells]
  · simp [Builtin.append_, run_underlying ht, sizeOf, typeInfo, hi, Builtin.lenOf, Builtin.firstCells, hnc, storeCells]

theorem wp_append_sl {w : World} {o : Oper} {a : Act} {K : Act → World → Prop} {Q : Exit → Act → World → Prop} (s x : Operand)
    (ho : o.op = .call { callee := .builtin .append, args := #[s, x], argTypes := #[22, 22] }) (base : Nat) (v : Value) (n : Nat) (xs : List ByteArray) (hs : a.eval s = v) (hown : w.ownsRow base 9 1 v n (strV xs))
    (v2 : Value) (ys : List ByteArray) (hx : a.eval x = v2) (hsl : SL w v2 ys) (hn : n + ys.length ≤ 1000000) (hbase : base ≤ w.heap.size)
    (h : ∀ v' w', w'.ownsRow base 9 1 v' (n + ys.length) (strV (xs ++ ys)) → w.grownBy w' v.ownBlock → K (a.put o.dst v') w') : o.wp Tryd.prog a w K Q := by
  obtain ⟨i0, hi, hz0, hz1, hz2⟩ := info_parts Tryd.infoStr
  obtain ⟨ad, c, rfl, hc, hcs⟩ := hsl.form
  cases ad with
  | none =>
    have hy : ys = [] := by
      cases ys with
      | nil => rfl
      | cons y ys => obtain ⟨b, off, e, _⟩ := hcs (by simp); cases e
    subst hy
    have hrun := run_append_none (P := Tryd.prog) base 22 o.type 9 i0 1 c Tryd.underlying22 hi v n (strV xs) hown
    have := h v w (by simpa using hown) (World.grownBy.refl _ _)
    unfold Oper.wp execOp
    simp only [ho, resolve, invoke, builtin, Sem.run_bind, Sem.run_pure, Result.andThen_ok, List.map_toArray, List.map_cons, List.map_nil, hs, hx, List.length_nil, hrun]
    exact this
  | some ad =>
    refine wp_append_own w s x 22 ho base 9 i0 _ 1 16 Tryd.underlying22 hi hz0 hz1 hz2 rfl (by decide) v n (strV xs) hs hown ad ys.length c (strV ys) hx (by simp [strV]) (fun j u hu => ?_) (fun u hu => ?_) (by simp only [maxLen]; omega) (by omega) hbase (fun v' w' h1 h2 _ => h v' w' (by simpa [strV] using h1) h2)
    · have hj : j < ys.length := by
        have := (List.getElem?_eq_some_iff.1 hu).1
        simpa [strV] using this
      obtain ⟨b, off, e, hb, hc⟩ := hcs (by omega)
      cases e
      have hadd : (⟨b, off, none⟩ : Addr).add j = ⟨b, off + j, none⟩ := by
        unfold Addr.add
        by_cases h : j = 0
        · subst h; simp
        · simp [h]
      rw [hadd, hc j ys[j] (List.getElem?_eq_getElem hj), ← hu]
      simp [strV, hj]
    · simp only [strV, List.mem_map] at hu
      obtain ⟨y, _, rfl⟩ := hu
      rfl
theorem wpList_append_sl {w : World} {ops : Array Oper} {rest : List Oper} {o : Oper} {a : Act} {Q : Exit → Act → World → Prop} (hgd : o.guard = none) (s x : Operand)
    (ho : o.op = .call { callee := .builtin .append, args := #[s, x], argTypes := #[22, 22] }) (base : Nat) (v : Value) (n : Nat) (xs : List ByteArray) (hs : a.eval s = v) (hown : w.ownsRow base 9 1 v n (strV xs))
    (v2 : Value) (ys : List ByteArray) (hx : a.eval x = v2) (hsl : SL w v2 ys) (hn : n + ys.length ≤ 1000000) (hbase : base ≤ w.heap.size)
    (h : ∀ v' w', w'.ownsRow base 9 1 v' (n + ys.length) (strV (xs ++ ys)) → w.grownBy w' v.ownBlock → wpList Tryd.prog ops Q rest (a.put o.dst v') w') : wpList Tryd.prog ops Q (o :: rest) a w :=
  wpList_plain hgd fun _ hK => wp_append_sl s x ho base v n xs hs hown v2 ys hx hsl hn hbase fun v' w' h1 h2 => hK _ _ (h v' w' h1 h2)
theorem step_append_sl {w : World} {ops : Array Oper} {o : Oper} {a : Act} {K : Act → World → Prop} {Q : Exit → Act → World → Prop} {E : Prop} (hgd : o.guard = none) (s x : Operand)
    (ho : o.op = .call { callee := .builtin .append, args := #[s, x], argTypes := #[22, 22] }) (base : Nat) (v : Value) (n : Nat) (xs : List ByteArray) (hs : a.eval s = v) (hown : w.ownsRow base 9 1 v n (strV xs))
    (v2 : Value) (ys : List ByteArray) (hx : a.eval x = v2) (hsl : SL w v2 ys) (hn : n + ys.length ≤ 1000000) (hbase : base ≤ w.heap.size)
    (h : ∀ v' w', w'.ownsRow base 9 1 v' (n + ys.length) (strV (xs ++ ys)) → w.grownBy w' v.ownBlock → K (a.put o.dst v') w') :
    if Region.wanted o (yielded ops a.tmps) = true then Oper.wp Tryd.prog o a w K Q else E := by
  have hw : Region.wanted o (yielded ops a.tmps) = true := by simp [Region.wanted, hgd]
  rw [if_pos hw]
  exact wp_append_sl s x ho base v n xs hs hown v2 ys hx hsl hn hbase h
end Go.Proofs.YtljgphmdiflphaaDoor
namespace Go.Proofs.YtljgphmdiflphaaDoor
open Go.RowKit Go.Shelf
set_option linter.unusedVariables false

structure TV where
  recs : List ByteArray
  head : ByteArray
  size : Nat

/-- A tape at the beginning of block b. -/
structure TapeAt (w : World) (b : Nat) (T : TypeId) (rest : List Value) (lv : Value) (t : TV) : Prop where
  cells : w.heap[b]? = some (.cells (lv :: .string t.head :: .int .i64 (t.size : Int) :: rest).toArray T (0, 0))
  row : w.ownsRow 0 9 1 lv t.recs.length (t.recs.map .string)
  ty : T ≠ 9
  hd : t.head.size = 32
  ln : t.recs.length ≤ 1000000
  sz : t.size ≤ 1000000000

theorem TapeAt.ne {w : World} {b : Nat} {T : TypeId} {rest : List Value} {lv : Value} {t : TV} (h : TapeAt w b T rest lv t) : lv.ownBlock ≠ some b := by
  intro e
  rcases h.row.2 with ⟨e1, _⟩ | ⟨g, cap, cur, e1, _, hg, _⟩
  · rw [e1] at e; cases e
  · rw [e1] at e; injection e with e; subst e; exact ty_ne h.cells hg h.ty rfl
theorem TapeAt.kept {w w' : World} {b : Nat} {T : TypeId} {rest : List Value} {lv : Value} {t : TV} (h : TapeAt w b T rest lv t) (hk : ∀ k, k < w.heap.size → k = b ∨ lv.ownBlock = some k → w'.heap[k]? = w.heap[k]?) : TapeAt w' b T rest lv t := by
  refine ⟨(hk _ (ltOf h.cells) (.inl rfl)).trans h.cells, ⟨h.row.1, ?_⟩, h.ty, h.hd, h.ln, h.sz⟩
  rcases h.row.2 with e | ⟨g, cap, cur, e, hb, hg, r⟩
  · exact .inl e
  · exact .inr ⟨g, cap, cur, e, hb, (hk g (ltOf hg) (.inr (by rw [e]; rfl))).trans hg, r⟩
theorem TapeAt.upd {S : Nat → Prop} {w w' : World} {b : Nat} {T : TypeId} {rest : List Value} {lv : Value} {t : TV} (h : TapeAt w b T rest lv t) (hU : Upd S w w') (hS : ∀ k, k = b ∨ lv.ownBlock = some k → ¬ S k) : TapeAt w' b T rest lv t :=
  h.kept fun k hk hf => hU.block k hk (hS k hf)
theorem TapeAt.below {w w' : World} {b : Nat} {T : TypeId} {rest : List Value} {lv : Value} {t : TV} (h : TapeAt w b T rest lv t) (hB : Below w.heap.size w w') : TapeAt w' b T rest lv t := h.kept fun k hk _ => hB.block k hk
theorem TapeAt.setHead {w : World} {b : Nat} {T : TypeId} {rest : List Value} {lv : Value} {t : TV} (h : TapeAt w b T rest lv t) (hd : ByteArray) (h32 : hd.size = 32) : TapeAt (w.setCell ⟨b, 1, none⟩ (.string hd)) b T rest lv ⟨t.recs, hd, t.size⟩ := by
  refine ⟨?_, h.row.kept (Lib.grownBy_setCell w b 1 _) (.inr h.ne), h.ty, h32, h.ln, h.sz⟩
  rw [setOf_ h.cells]; rfl
theorem TapeAt.setSize {w : World} {b : Nat} {T : TypeId} {rest : List Value} {lv : Value} {t : TV} (h : TapeAt w b T rest lv t) (n : Nat) (hn : n ≤ 1000000000) : TapeAt (w.setCell ⟨b, 2, none⟩ (.int .i64 (n : Int))) b T rest lv ⟨t.recs, t.head, n⟩ := by
  refine ⟨?_, h.row.kept (Lib.grownBy_setCell w b 2 _) (.inr h.ne), h.ty, h.hd, h.ln, hn⟩
  rw [setOf_ h.cells]; rfl

theorem TapeAt.pushed {w W3 : World} {b : Nat} {T : TypeId} {rest : List Value} {lv : Value} {t : TV} (h : TapeAt w b T rest lv t) (r : ByteArray) {o : Obj} {g cap : Nat} (hl : t.recs.length ≤ 900000)
    (hown : W3.ownsRow 0 9 1 (.slice (some ⟨g, 0, none⟩) (t.recs.length + 1) cap) (t.recs.length + 1) (t.recs.map .string ++ [.string r])) (hg : (w.alloc o).grownBy W3 lv.ownBlock) :
    W3.heap[b]? = some (.cells (lv :: .string t.head :: .int .i64 (t.size : Int) :: rest).toArray T (0, 0)) ∧ TapeAt (W3.setCell ⟨b, 0, none⟩ (.slice (some ⟨g, 0, none⟩) (t.recs.length + 1) cap)) b T rest (.slice (some ⟨g, 0, none⟩) (t.recs.length + 1) cap) ⟨t.recs ++ [r], t.head, t.size⟩ := by
  have h3 : W3.heap[b]? = some (.cells (lv :: .string t.head :: .int .i64 (t.size : Int) :: rest).toArray T (0, 0)) := by
    rw [hg.block b (by have := ltOf h.cells; simp; omega) (fun e => h.ne e.symm), allocOld (ltOf h.cells)]; exact h.cells
  refine ⟨h3, ?_, ?_, h.ty, h.hd, by simp; omega, h.sz⟩
  · rw [setOf_ h3]; rfl
  · have hne : (Value.slice (some ⟨g, 0, none⟩) (t.recs.length + 1) cap).ownBlock ≠ some b := by
      intro e
      rcases hown.2 with ⟨e1, _⟩ | ⟨g', cap', cur, e1, _, hg', _⟩
      · cases e1
      · rw [e1] at e; injection e with e; subst e; exact ty_ne h3 hg' h.ty rfl
    have := hown.kept (Lib.grownBy_setCell W3 b 0 (.slice (some ⟨g, 0, none⟩) (t.recs.length + 1) cap)) (.inr hne)
    simpa using this

/-- a record as it is stored -/
def recE (h r : ByteArray) : ByteArray := ⟨#[1]⟩ ++ putS r ++ chainB h r

theorem conv1 {W : World} {g : Nat} (h : W.heap[g]? = some (.cells #[.int .u8 1] 5 (0, 0))) :
    (convert 45 9 (.slice (some ⟨g, 0, none⟩) 1 1)).run Tryd.prog W = .ok (.string ⟨#[1]⟩) W := by
  have h' : W.heap[g]? = some (.cells (bytesV [1]).toArray 5 (0, 0)) := h
  rw [run_conv_row 45 9 5 Tryd.underlying45 Tryd.underlying5 Tryd.underlying9 g 0 1 1 _ _ h' (by decide)]
  rfl
theorem conv1A (W : World) : (convert 45 9 (.slice (some ⟨W.heap.size, 0, none⟩) 1 1)).run Tryd.prog (W.alloc (.cells #[.int .u8 1] 5)) = .ok (.string ⟨#[1]⟩) (W.alloc (.cells #[.int .u8 1] 5)) := conv1 (allocAt _ rfl)
theorem conv1B (W : World) : (convert 45 9 (.slice (some ⟨W.heap.size, 0, none⟩) 1 1)).run Tryd.prog (W.drew.alloc (.cells #[.int .u8 1] 5)) = .ok (.string ⟨#[1]⟩) (W.drew.alloc (.cells #[.int .u8 1] 5)) := conv1 (allocAt _ rfl)
theorem conv1D (W : World) : (convert 45 9 (.slice (some ⟨W.heap.size, 0, none⟩) 1 1)).run Tryd.prog (W.alloc (.cells #[.int .u8 1] 5)).drew = .ok (.string ⟨#[1]⟩) (W.alloc (.cells #[.int .u8 1] 5)).drew := conv1 (by rw [drewHeap]; exact allocAt _ rfl)

set_option maxRecDepth 100000 in
set_option maxHeartbeats 2000000 in
theorem add_any2 {w : World} {b : Nat} {T : TypeId} {rest : List Value} {lv : Value} {t : TV} (h : TapeAt w b T rest lv t) (r : ByteArray) (hr : r.size ≤ 65536) (hl : t.recs.length ≤ 900000) (hz : t.size ≤ 900000000) (hR : RoundLaid w) (hnb : b ≠ 0) :
    Calls Tryd.prog 82 #[.pointer (some ⟨b, 0, none⟩), .string r] w fun e w' => e = .returned (.string (recE t.head r)) ∧ ∃ lv', TapeAt w' b T rest lv' ⟨t.recs ++ [r], chainB t.head r, t.size + (recE t.head r).size⟩ ∧
      Upd (fun k => k = b ∨ lv.ownBlock = some k) w w' ∧ (lv'.ownBlock = lv.ownBlock ∨ ∃ g, lv'.ownBlock = some g ∧ w.heap.size ≤ g) := by
  obtain ⟨i0, hi, hz0, hz1, hz2⟩ := info_parts Tryd.infoStr
  have c1 : w.cell? ⟨b, 1, none⟩ = some (.string t.head) := cellOf h.cells 1
  have CH := Lib.hid (Chain_any t.head r (by rw [h.hd]; omega) w hR)
  have H := Lib.hid h
  clear h hR
  go_enter Tryd.func82, Tryd.ntmps82
  go_wp2_with fail
  refine CH.out.mono ?_
  rintro e w1 ⟨rfl, hB1⟩
  have hc32 : (chainB t.head r).size = 32 := sumB_size _
  have h1 := H.out.below hB1
  have h2 := h1.setHead (chainB t.head r) hc32
  have f1 : w1.frozen? ⟨b, 1, none⟩ = false := frozenOf h1.cells 1
  have H1 := Lib.hid h1
  have H2 := Lib.hid h2
  have HB1 := Lib.hid hB1
  clear h1 h2 hB1 CH
  generalize hC : chainB t.head r = C at *
  have HC := Lib.hid hC
  clear hC
  have d0 : w1.cell? ⟨b, 0, none⟩ = some lv := cellOf H1.out.cells 0
  have d1 : w1.cell? ⟨b, 1, none⟩ = some (.string t.head) := cellOf H1.out.cells 1
  have hlw := ltOf H.out.cells
  have hB1s := HB1.out.size
  have PS := Lib.hid (fun W => PutString_any r hr W)
  go_wp2_with (first
    | (at_builtin; refine wpList_append_lies _ rfl (.tmp 21) (.tmp 23) 22 rfl 0 9 i0 _ 1 16 Tryd.underlying22 hi hz0 hz1 hz2 rfl (by decide) lv t.recs.length _ rfl (H2.out.row.alloc _) ⟨w1.heap.size, 0, none⟩ 1 1 [.string r] rfl rfl (by have := cell_one_new (w1.setCell ⟨b, 1, none⟩ (.string C)) (.string r) 9; simpa using this) (by simp [Value.oneCell']) (by omega) (by simp only [maxLen]; omega) (by omega) (Nat.zero_le _) (w1.heap.size + 1) (by simp) ?_
       intro g cap w3 hown hgr hat hlt
       obtain ⟨h3, h4⟩ := H2.out.pushed r hl hown hgr
       have HGR := Lib.hid hgr
       have HAT := Lib.hid hat
       have HLT := Lib.hid hlt
       have e0 : w3.cell? ⟨b, 0, none⟩ = some lv := cellOf h3 0
       have g0 : w3.frozen? ⟨b, 0, none⟩ = false := frozenOf h3 0
       have H4 := Lib.hid h4
       clear hgr hat hlt h3 h4 hown)
    | fail)
  have hne : lv.ownBlock ≠ some b := H.out.ne
  have hlv : ∀ k, lv.ownBlock = some k → k < w.heap.size := fun k e => (H.out.row.lt k e).2
  have U4 : Hid (Upd (fun k => k = b ∨ lv.ownBlock = some k) w (w3.setCell ⟨b, 0, none⟩ (.slice (some ⟨g, 0, none⟩) (t.recs.length + 1) cap))) := Lib.hid
    (((((Upd.of_below (S := fun k => k = b ∨ lv.ownBlock = some k) HB1.out).setCell ⟨b, 1, none⟩ (.string C) (.inl (.inl rfl))).alloc _).grown HGR.out (fun k e => .inl (.inr e))).setCell ⟨b, 0, none⟩ _ (.inl (.inl rfl)))
  have HG : Hid (lv.ownBlock = some g ∨ w.heap.size ≤ g) := Lib.hid (HAT.out.imp id (fun e => by omega))
  clear e0 g0 HGR HAT HLT d0 d1 f1 H1 H2 HB1 hlv
  obtain ⟨lv', hlv'⟩ : ∃ lv', (Value.slice (some ⟨g, 0, none⟩) (t.recs.length + 1) cap) = lv' := ⟨_, rfl⟩
  have HO : Hid (lv'.ownBlock = some g) := Lib.hid (by rw [← hlv']; rfl)
  rw [hlv'] at H4 U4 ⊢
  clear hlv'
  generalize w3.setCell ⟨b, 0, none⟩ lv' = W4 at *
  refine (PS.out W4).mono ?_
  rintro e W5 ⟨rfl, hB5⟩
  have H5 := Lib.hid (H4.out.below hB5)
  have U5 := Lib.hid (U4.out.trans (Upd.of_below hB5 (S := fun _ => False)) (fun _ _ h => h.elim))
  clear hB5 H4 U4 PS
  have e1 : W5.cell? ⟨b, 1, none⟩ = some (.string C) := cellOf H5.out.cells 1
  have e2 : W5.cell? ⟨b, 2, none⟩ = some (.int .i64 (t.size : Int)) := cellOf H5.out.cells 2
  have g2 : W5.frozen? ⟨b, 2, none⟩ = false := frozenOf H5.out.cells 2
  have hps : (putS r).size ≤ 100000 := by have := intS_size r.size; rw [putS, ByteArray.size_append]; omega
  have HPS : Hid (recE t.head r = ⟨#[1]⟩ ++ putS r ++ C) := Lib.hid (by rw [recE, HC.out])
  have hlw5 : b < W5.heap.size := by have := U5.out.size; omega
  clear c1
  generalize putS r = p at *
  go_wp2
  have hcA := conv1A
  have hcB := conv1B
  have hcD := conv1D
  go_region_held (fun w' => w'.cell? ⟨b, 1, none⟩ = some (.string C)) ((first | exact e1 | go_keep)) (fail)
  all_goals
    clear hcA hcB hcD
    have hos : ((⟨#[1]⟩ ++ p ++ C : ByteArray)).size ≤ 200000 := by
      rw [ByteArray.size_append, ByteArray.size_append, hc32]; have : (⟨#[1]⟩ : ByteArray).size = 1 := rfl; omega
    have U6 : Hid (Upd (fun k => k = b ∨ lv.ownBlock = some k) w (W5.alloc (.cells #[.int .u8 1] 5)).drew) := Lib.hid (U5.out.alloc _).drew
    have H6 : Hid (TapeAt (W5.alloc (.cells #[.int .u8 1] 5)).drew b T rest lv' ⟨t.recs ++ [r], C, t.size⟩) := Lib.hid (H5.out.below ((Below.refl _ W5).alloc (Nat.le_refl _) _).drew)
    clear e1 e2 g2 H5 U5
    generalize (W5.alloc (.cells #[.int .u8 1] 5)).drew = W6 at *
    rw [← HPS.out] at hos ⊢
    clear HPS hps
    generalize hOut : recE t.head r = out at *
    have HOUT := Lib.hid hOut
    clear hOut
    have e2 : W6.cell? ⟨b, 2, none⟩ = some (.int .i64 (t.size : Int)) := cellOf H6.out.cells 2
    have g2 : W6.frozen? ⟨b, 2, none⟩ = false := frozenOf H6.out.cells 2
    go_wp2
    go_ret
    refine ⟨by rw [HOUT.out]; rfl, lv', ?_, U6.out.setCell _ _ (.inl (.inl rfl)), ?_⟩
    · have := H6.out.setSize (t.size + out.size) (by omega)
      rw [HC.out, HOUT.out]
      simpa using this
    · rcases HG.out with h | h
      · exact .inl (by rw [HO.out, h])
      · exact .inr ⟨g, HO.out, h⟩
end Go.Proofs.YtljgphmdiflphaaDoor
namespace Go.Proofs.YtljgphmdiflphaaDoor
open Go.RowKit Go.Extern.Stop Go.Stop Go.Extern
set_option linter.unusedVariables false

theorem Tryd.isTypeOf (v : Value) (w : World) : (Extern.ReflectliteType.typeOf #[.iface 193 v]).run Tryd.prog w = .ok (.iface 168 (.agg #[.pointer (some ⟨5, 193, none⟩)])) w := by kernel_rfl
theorem Tryd.isComparable (w : World) : ((Extern.ReflectliteType.method fun t => do Rtype.noPackHeld "Comparable" t; pure (.bool (← typeInfo t).comparable)) #[.agg #[.pointer (some ⟨5, 193, none⟩)]]).run Tryd.prog w = .ok (.bool true) w := by kernel_rfl
theorem Tryd.callTypeOf (v : Value) (w : World) : (callFunc 119 #[.iface 193 v]).run Tryd.prog w = .ok (.value (.iface 168 (.agg #[.pointer (some ⟨5, 193, none⟩)]))) w := by
  rw [@run_callFunc_extern Tryd.prog 119 _ Extern.ReflectliteType.typeOf Tryd.func119 (by kernel_rfl) (by kernel_rfl) (by kernel_rfl) (by kernel_rfl), Tryd.isTypeOf]; rfl
theorem Tryd.callComparable (w : World) : (callFunc 162 #[.agg #[.pointer (some ⟨5, 193, none⟩)]]).run Tryd.prog w = .ok (.value (.bool true)) w := by
  rw [@run_callFunc_extern Tryd.prog 162 _ (Extern.ReflectliteType.method fun t => do Rtype.noPackHeld "Comparable" t; pure (.bool (← typeInfo t).comparable)) Tryd.func162 (by kernel_rfl) (by kernel_rfl) (by kernel_rfl) (by kernel_rfl), Tryd.isComparable]; rfl
theorem Tryd.isComp : (Tryd.prog.info? 193).map (·.comparable) = some true := by kernel_rfl
theorem Tryd.isSize : (Tryd.prog.info? 215).map (·.size) = some 1 := by kernel_rfl

/-- errors.Is(x, x), x a pointer to an errors.errorString. -/
theorem is_same (a : Addr) (w : World) :
    Calls Tryd.prog 100 #[.iface 193 (.pointer (some a)), .iface 193 (.pointer (some a))] w fun e w' => e = .returned (.bool true) ∧ w = w' := by
  obtain ⟨i, hi, hcmp⟩ := Option.map_eq_some_iff.1 Tryd.isComp
  obtain ⟨j, hj, hjs⟩ := Option.map_eq_some_iff.1 Tryd.isSize
  have tT := Tryd.callTypeOf
  have cT := Tryd.callComparable
  have heq := run_eql_iface_ptr_same (P := Tryd.prog) w a Tryd.underlying115 Tryd.underlying193 hi hcmp hj
  go_enter Tryd.func100, Tryd.ntmps100
  go_wp2
  refine wp_loop_rounds 1 ?_
  rw [rounds_succ]
  go_wp2
  go_ret
  exact ⟨rfl, rfl⟩
end Go.Proofs.YtljgphmdiflphaaDoor
