/- The reference's journal: Append. -/
import Derived.Test.YthlmgookaljgnaaGreatDoorRfR
namespace Go.Proofs.YthlmgookaljgnaaGreatDoor
open Go.RowKit Go.Shelf
set_option linter.unusedVariables false
set_option linter.unusedSimpArgs false

theorem growAll_headEq (l : List ByteArray) : ∀ a b : TV, a.head = b.head → (growAll a l).head = (growAll b l).head := by
  induction l with
  | nil => intro a b h; exact h
  | cons x l ih => intro a b h; exact ih (growT a x) (growT b x) (by show chainB a.head x = chainB b.head x; rw [h])
/-- A journal of the reference with the set of its blocks. -/
def RG (w : World) (jb bx n : Nat) (br : Bool) (t : TV) (d : DV) (H : Nat → Prop) : Prop := ∃ lv gs cs lv0, RJAt w jb bx lv br t ∧ RefAt w bx gs cs lv0 n d ∧ ¬ FootR bx gs lv0 jb ∧ (∀ q, lv.ownBlock = some q → ¬ FootR bx gs lv0 q) ∧ ∀ k, H k ↔ (k = jb ∨ lv.ownBlock = some k ∨ FootR bx gs lv0 k)
def RAOut (w : World) (jb bx n : Nat) (H : Nat → Prop) (o : Int × Bool × TV × DV) (e : Ending) (w' : World) : Prop := e = .returned (.int .i64 o.1) ∧ ∃ H', RG w' jb bx n o.2.1 o.2.2.1 o.2.2.2 H' ∧ Moves H H' w w'

/-- behind calls on the disk: the journal, and the disk -/
structure RAt (w W : World) (jb bx n gs cs gs' cs' : Nat) (lv lv0 lv0' : Value) (br : Bool) (t : TV) (d' : DV) : Prop where
  j : RJAt W jb bx lv br t
  r : RefAt W bx gs' cs' lv0' n d'
  nj : ¬ FootR bx gs' lv0' jb
  nl : ∀ q, lv.ownBlock = some q → ¬ FootR bx gs' lv0' q
  m : Moves (FootR bx gs lv0) (FootR bx gs' lv0') w W
theorem RAt.step {w W W' : World} {jb bx n gs cs gs' cs' gs2 cs2 : Nat} {lv lv0 lv0' lv2 : Value} {br : Bool} {t : TV} {d' d2 : DV} (h : RAt w W jb bx n gs cs gs' cs' lv lv0 lv0' br t d') (R : RefAt W' bx gs2 cs2 lv2 n d2) (M : Moves (FootR bx gs' lv0') (FootR bx gs2 lv2) W W') :
    RAt w W' jb bx n gs cs gs2 cs2 lv lv0 lv2 br t d2 := by
  have hjw := ltOf h.j.cells
  refine ⟨h.j.upd M.1 h.nj h.nl, R, fun hf => ?_, fun q e hf => ?_, h.m.trans M⟩
  · rcases M.2 _ hf with x | x
    · exact h.nj x
    · omega
  · rcases M.2 _ hf with x | x
    · exact h.nl q e x
    · have := (h.j.ne e).2; omega
theorem RAt.below {w W W' : World} {jb bx n gs cs gs' cs' : Nat} {lv lv0 lv0' : Value} {br : Bool} {t : TV} {d' : DV} (h : RAt w W jb bx n gs cs gs' cs' lv lv0 lv0' br t d') (hB : Below W.heap.size W W') : RAt w W' jb bx n gs cs gs' cs' lv lv0 lv0' br t d' :=
  ⟨h.j.below hB, h.r.upd (Upd.of_below (S := fun _ => False) hB) (fun _ _ f => f), h.nj, h.nl, ⟨h.m.1.trans (Upd.of_below (S := fun _ => False) hB) (fun _ _ f => f.elim), h.m.2⟩⟩
/-- the end where the journal's cells stay, or are marked broken -/
theorem RAt.out {w W : World} {jb bx n gs cs gs' cs' : Nat} {lv lv0 lv0' : Value} {br : Bool} {t : TV} {d' : DV} {H : Nat → Prop} (hH : ∀ k, H k ↔ (k = jb ∨ lv.ownBlock = some k ∨ FootR bx gs lv0 k)) (h : RAt w W jb bx n gs cs gs' cs' lv lv0 lv0' br t d') :
    ∃ H', RG W jb bx n br t d' H' ∧ Moves H H' w W := by
  refine ⟨_, ⟨lv, gs', cs', lv0', h.j, h.r, h.nj, h.nl, fun _ => Iff.rfl⟩, h.m.1.mono (fun i _ f => (hH i).2 (.inr (.inr f))), fun k hk => ?_⟩
  rcases hk with e | e | e
  · exact .inl ((hH k).2 (.inl e))
  · exact .inl ((hH k).2 (.inr (.inl e)))
  · rcases h.m.2 k e with x | x
    · exact .inl ((hH k).2 (.inr (.inr x)))
    · exact .inr x
theorem RAt.broken {w W : World} {jb bx n gs cs gs' cs' : Nat} {lv lv0 lv0' : Value} {br : Bool} {t : TV} {d' : DV} {H : Nat → Prop} (hH : ∀ k, H k ↔ (k = jb ∨ lv.ownBlock = some k ∨ FootR bx gs lv0 k)) (h : RAt w W jb bx n gs cs gs' cs' lv lv0 lv0' br t d') :
    ∃ H', RG (W.setCell ⟨jb, 3, none⟩ (.bool true)) jb bx n true t d' H' ∧ Moves H H' w (W.setCell ⟨jb, 3, none⟩ (.bool true)) := by
  have hU : Upd (fun k => k = jb) W (W.setCell ⟨jb, 3, none⟩ (.bool true)) := (Upd.refl _ W).setCell _ _ (.inl rfl)
  refine ⟨_, ⟨lv, gs', cs', lv0', ⟨setOf_ h.j.cells 3 (.bool true), own_updB h.j.row hU (fun q e f => by have := (h.j.ne e).1; omega), h.j.ln, h.j.sz, h.j.hd⟩, h.r.upd hU (fun k f e => h.nj (e ▸ f)), h.nj, h.nl, fun _ => Iff.rfl⟩, (h.m.1.mono (fun i _ f => (hH i).2 (.inr (.inr f)))).trans hU (fun i _ e => (hH i).2 (.inl e)), fun k hk => ?_⟩
  rcases hk with e | e | e
  · exact .inl ((hH k).2 (.inl e))
  · exact .inl ((hH k).2 (.inr (.inl e)))
  · rcases h.m.2 k e with x | x
    · exact .inl ((hH k).2 (.inr (.inr x)))
    · exact .inr x

theorem own_formS {w : World} {base n : Nat} {t : TypeId} {v : Value} {xs : List Value} (h : w.ownsRow base t 1 v n xs) : ∃ A c, v = .slice A n c := by
  rcases h.2 with ⟨e, e0⟩ | ⟨g, cap, cur, e, _⟩
  · exact ⟨none, 0, by rw [e, e0]⟩
  · exact ⟨_, cap, e⟩
theorem RAt.done {w w9 w11 : World} {jb bx n gs cs gs' cs' m z : Nat} {lv lv0 lv0' v4 : Value} {t t' : TV} {d' : DV} {l : List ByteArray} {H : Nat → Prop} (hH : ∀ k, H k ↔ (k = jb ∨ lv.ownBlock = some k ∨ FootR bx gs lv0 k)) (h9 : RAt w w9 jb bx n gs cs gs' cs' lv lv0 lv0' false t d')
    (hB : Below w9.heap.size w9 w11) (hown : w11.ownsRow w9.heap.size 9 1 v4 m (strV l)) (hm : m = l.length) (hl : t'.recs = l) (hz : t'.size = z) (hln : l.length ≤ 1000000) (hzz : z ≤ 1000000000) (hd : t'.head = (growAll tv0 t'.recs).head) :
    ∃ H', RG ((w11.setCell ⟨jb, 1, none⟩ v4).setCell ⟨jb, 2, none⟩ (.int .i64 (z : Int))) jb bx n false t' d' H' ∧ Moves H H' w ((w11.setCell ⟨jb, 1, none⟩ v4).setCell ⟨jb, 2, none⟩ (.int .i64 (z : Int))) := by
  subst hl hz hm
  have h11 := h9.below hB
  have hj9 := ltOf h9.j.cells
  have hw9 := h9.m.1.size
  have hU : Upd (fun k => k = jb) w11 ((w11.setCell ⟨jb, 1, none⟩ v4).setCell ⟨jb, 2, none⟩ (.int .i64 (t'.size : Int))) := ((Upd.refl (fun k => k = jb) w11).setCell ⟨jb, 1, none⟩ v4 (.inl rfl)).setCell ⟨jb, 2, none⟩ (.int .i64 (t'.size : Int)) (.inl rfl)
  have hvn : ∀ q, v4.ownBlock = some q → w9.heap.size ≤ q := fun q e => (hown.lt q e).1
  have hrow := own_updB hown hU (fun q e f => by have := hvn q e; omega)
  refine ⟨_, ⟨v4, gs', cs', lv0', ⟨setOf_ (setOf_ h11.j.cells 1 v4) 2 _, ⟨hrow.1, hrow.2.imp id (fun ⟨g, c, cu, e1, e2, r⟩ => ⟨g, c, cu, e1, by omega, r⟩)⟩, hln, hzz, hd⟩, h11.r.upd hU (fun k f e => h11.nj (e ▸ f)), h11.nj, fun q e f => ?_, fun _ => Iff.rfl⟩,
    (h11.m.1.mono (fun i _ f => (hH i).2 (.inr (.inr f)))).trans hU (fun i _ e => (hH i).2 (.inl e)), fun k hk => ?_⟩
  · have := h9.r.foot_lt f
    have := hvn q e
    omega
  · rcases hk with e | e | e
    · exact .inl ((hH k).2 (.inl e))
    · have := hvn k e
      exact .inr (by omega)
    · rcases h9.m.2 k e with x | x
      · exact .inl ((hH k).2 (.inr (.inr x)))
      · exact .inr x
section
variable {w W : World} {jb bx n gs cs gs' cs' : Nat} {lv lv0 lv0' : Value} {br : Bool} {t : TV} {d' : DV}
theorem RAt.c0 (h : RAt w W jb bx n gs cs gs' cs' lv lv0 lv0' br t d') : W.cell? ⟨jb, 0, none⟩ = some (.pointer (some ⟨bx, 0, none⟩)) := cellOf h.j.cells 0
theorem RAt.c1 (h : RAt w W jb bx n gs cs gs' cs' lv lv0 lv0' br t d') : W.cell? ⟨jb, 1, none⟩ = some lv := cellOf h.j.cells 1
theorem RAt.c2 (h : RAt w W jb bx n gs cs gs' cs' lv lv0 lv0' br t d') : W.cell? ⟨jb, 2, none⟩ = some (.int .i64 (t.size : Int)) := cellOf h.j.cells 2
theorem RAt.c3 (h : RAt w W jb bx n gs cs gs' cs' lv lv0 lv0' br t d') : W.cell? ⟨jb, 3, none⟩ = some (.bool br) := cellOf h.j.cells 3
theorem RAt.f (h : RAt w W jb bx n gs cs gs' cs' lv lv0 lv0' br t d') (o : Nat) : W.frozen? ⟨jb, o, none⟩ = false := frozenOf h.j.cells o
theorem RAt.write (h : RAt w W jb bx n gs cs gs' cs' lv lv0 lv0' br t d') (ho : d'.off = false) (p : Nat) (s : ByteArray) (hs : p + s.size ≤ n) (hl : d'.pe.length ≤ 1000000) :
    Calls Tryz.prog 13 #[.pointer (some ⟨bx, 0, none⟩), .int .i64 (p : Int), .string s] W fun e w' => e = .returned (.int .i64 0) ∧ ∃ gs2 cs2 lv2, RAt w w' jb bx n gs cs gs2 cs2 lv lv0 lv2 br t (writeD d' p s) := by
  refine (RefWrite_ok h.r ho p s hs hl).mono ?_
  rintro e w' ⟨rfl, g2, c2, l2, hR, hM⟩
  exact ⟨rfl, g2, c2, l2, h.step hR hM⟩
theorem RAt.write_off (h : RAt w W jb bx n gs cs gs' cs' lv lv0 lv0' br t d') (ho : d'.off = true) (x : Int) (s : ByteArray) :
    Calls Tryz.prog 13 #[.pointer (some ⟨bx, 0, none⟩), .int .i64 x, .string s] W fun e w' => e = .returned (.int .i64 251) ∧ W = w' := RefWrite_off h.r ho x s
theorem RAt.sync (h : RAt w W jb bx n gs cs gs' cs' lv lv0 lv0' br t d') (ho : d'.off = false) :
    Calls Tryz.prog 37 #[.pointer (some ⟨bx, 0, none⟩)] W fun e w' => e = .returned (.int .i64 0) ∧ ∃ gs2 cs2 lv2, RAt w w' jb bx n gs cs gs2 cs2 lv lv0 lv2 br t (syncD d') := by
  refine (RefSync_ok h.r ho).mono ?_
  rintro e w' ⟨rfl, g2, c2, l2, hR, hM⟩
  exact ⟨rfl, g2, c2, l2, h.step hR hM⟩
theorem RAt.sync_off (h : RAt w W jb bx n gs cs gs' cs' lv lv0 lv0' br t d') (ho : d'.off = true) :
    Calls Tryz.prog 37 #[.pointer (some ⟨bx, 0, none⟩)] W fun e w' => e = .returned (.int .i64 251) ∧ W = w' := RefSync_off h.r ho
end

set_option maxRecDepth 100000 in
set_option maxHeartbeats 4000000 in
theorem RAppend_any {w : World} {jb bx n : Nat} {br : Bool} {t : TV} {d : DV} {H : Nat → Prop} (h : RG w jb bx n br t d H) (hrs : ∀ r ∈ t.recs, r.size ≤ 65536) (hrl : t.recs.length ≤ 100000) (hn : n ≤ 800000) (hz : t.size ≤ n) (hpe : d.pe.length ≤ 100000)
    (sv : Value) (g : List ByteArray) (hsv : RowK w sv g H) (hl : g.length ≤ 100) (hs : ∀ r ∈ g, r.size ≤ 1000000) :
    Calls Tryz.prog 9 #[.pointer (some ⟨jb, 0, none⟩), sv] w fun e w' => RAOut w jb bx n H (appJ n br t d g) e w' := by
  obtain ⟨lv, gs, cs, lv0, hJ, hR, hnj, hnl, hH⟩ := h
  have HA : Hid (RAt w w jb bx n gs cs gs cs lv lv0 lv0 br t d) := Lib.hid ⟨hJ, hR, hnj, hnl, Moves.refl _ _⟩
  have HH := Lib.hid hH
  have HSV := Lib.hid hsv
  have HRS := Lib.hid (And.intro hrs hs)
  have k3 : w.cell? ⟨jb, 3, none⟩ = some (.bool br) := cellOf hJ.cells 3
  have k1 : w.cell? ⟨jb, 1, none⟩ = some lv := cellOf hJ.cells 1
  have hd32 := hJ.head
  obtain ⟨a, cap, rfl, hcp, hne⟩ := hsv.sl.form
  have HNE := Lib.hid hne
  clear hJ hR hnj hnl hH hsv hrs hs hne
  by_cases hbr : br = true
  · subst hbr
    have hO : Hid (appJ n true t d g = (260, true, t, d)) := Lib.hid (by rw [appJ, if_pos (.inl rfl)])
    go_enter Tryz.func9, Tryz.ntmps9
    go_wp2
    go_ret
    rw [hO.out]
    exact ⟨rfl, HA.out.out HH.out⟩
  obtain rfl : br = false := by simpa using hbr
  have HD := Lib.hid (fun W (hB : Below w.heap.size w W) => RHead_any W lv t.recs (SL_own (HA.out.below hB).j.row) hrl HRS.out.1)
  have hhd : Hid ((growAll tv0 t.recs).head = t.head) := Lib.hid HA.out.j.hd.symm
  go_enter Tryz.func9, Tryz.ntmps9
  go_wp2_with (go_at_call 35; refine (HD.out _ (Below.refl _ _)).mono ?_; rw [hhd.out]; rintro e w1 ⟨rfl, hB1⟩; have HB1 := Lib.hid hB1; clear hB1)
  go_loopw [5, 6, 7] (fun ov hv iv wr => ∃ k : Nat, iv = .int .i64 k ∧ k ≤ g.length ∧ ov = .string (outE t (g.take k)) ∧ hv = .string (growAll t (g.take k)).head ∧ (∀ r ∈ g.take k, r.size ≤ 65536) ∧ Below w.heap.size w wr) (fun _ _ iv _ => g.length - (intOf iv).toNat)
  case atStart => exact ⟨0, rfl, Nat.zero_le _, rfl, rfl, by simp, HB1.out⟩
  case round =>
    obtain ⟨k, rfl, hk, rfl, rfl, hsm, hb⟩ := hrel
    have HB := Lib.hid hb
    have HSM := Lib.hid hsm
    clear hb hsm HB1
    by_cases h1 : k < g.length
    · obtain ⟨b, off, rfl, hbl, hcs⟩ := HNE.out (by omega)
      have hcy : ∀ W, Below w.heap.size w W → W.cell? ⟨b, off + k, none⟩ = some (.string g[k]) := fun W hW => (hW.cell (p := ⟨b, off + k, none⟩) hbl).trans (hcs k g[k] (by simp))
      have hcx := hcy wr HB.out
      have hsz := HRS.out.2 g[k] (List.getElem_mem h1)
      have e1 : g.take (k + 1) = g.take k ++ [g[k]] := by rw [List.take_succ_eq_append_getElem h1]
      have zh := growAll_head (g.take k) t hd32
      have hol := outE_le (g.take k) t 65536 HSM.out
      have hol2 : (outE t (g.take k)).size ≤ 100 * 65579 := Nat.le_trans hol (Nat.mul_le_mul (by rw [List.length_take]; omega) (Nat.le_refl _))
      have h1i : (k : Int) < (g.length : Int) := by omega
      by_cases hbig : 65536 < g[k].size
      · have hO : Hid (appJ n false t d g = (260, false, t, d)) := Lib.hid (appJ_long ⟨g[k], List.getElem_mem h1, hbig⟩)
        generalize hgk : g[k] = r at *
        clear hgk e1 zh hol hcy hcs
        have hbi : (65536 : Int) < (r.size : Int) := by omega
        go_wp2
        go_ret
        rw [hO.out]
        exact ⟨rfl, (HA.out.below HB.out).out HH.out⟩
      · have HE : Hid (outE t (g.take (k + 1)) = outE t (g.take k) ++ recE (growAll t (g.take k)).head g[k] ∧ (growAll t (g.take (k + 1))).head = chainB (growAll t (g.take k)).head g[k] ∧ ∀ r ∈ g.take (k + 1), r.size ≤ 65536) := Lib.hid (by
          rw [e1, outE_snoc, growAll_snoc]
          refine ⟨rfl, rfl, fun r hr => ?_⟩
          rcases List.mem_append.1 hr with hr | hr
          · exact HSM.out r hr
          · rw [List.mem_singleton.1 hr]; omega)
        have hrl2 := recE_le (growAll t (g.take k)).head g[k]
        have ST := Lib.hid (fun W => RStored_any (growAll t (g.take k)).head g[k] zh (by omega) W)
        generalize hgk : g[k] = r at *
        generalize (growAll t (g.take k)).head = hh at *
        generalize outE t (g.take k) = oo at *
        clear hgk e1 hol hcs
        have hbi : ¬ (65536 : Int) < (r.size : Int) := by omega
        have hsum : ¬ 9223372036854775807 < oo.size + (recE hh r).size := by omega
        go_wp2_with (first
          | (go_at_call 36; refine (ST.out _).mono ?_; rintro e w4 ⟨rfl, hB4⟩; have HB4 := Lib.hid hB4; clear hB4)
          | fail)
        go_round
        case measure => simp only [intOf]; omega
        case rel => exact ⟨k + 1, by push_cast; rfl, by omega, by rw [HE.out.1], by rw [HE.out.2.1], HE.out.2.2, HB.out.trans (HB4.out.mono HB.out.size)⟩
    · have hkl : k = g.length := by omega
      subst hkl
      have HSM2 : Hid (∀ r ∈ g, r.size ≤ 65536) := Lib.hid (fun r hr => HSM.out r (by rw [List.take_length]; exact hr))
      have h1i : ¬ ((g.length : Nat) : Int) < (g.length : Int) := by omega
      rw [List.take_length]
      have hol := outE_le g t 65536 HSM2.out
      have hol2 : (outE t g).size ≤ 100 * 65579 := Nat.le_trans hol (Nat.mul_le_mul hl (Nat.le_refl _))
      have RO := Lib.hid (RRoom_any (HA.out.below HB.out).j (HA.out.below HB.out).r hz)
      clear HSM hol
      by_cases hfull : (n : Int) - (t.size : Int) < ((outE t g).size : Int)
      · have hO : Hid (appJ n false t d g = (261, false, t, d)) := Lib.hid (by
          rw [appJ, if_neg, if_pos hfull]
          simp only [Bool.false_eq_true, false_or, List.any_eq_true, decide_eq_true_eq, not_exists, not_and]
          exact fun r hr => by have := HSM2.out r hr; omega)
        go_wp2_with (go_at_call 18; refine RO.out.mono ?_; rintro e w5 ⟨rfl, hB5⟩; have HB5 := Lib.hid hB5; clear hB5)
        go_ret
        rw [hO.out]
        exact ⟨rfl, ((HA.out.below HB.out).below HB5.out).out HH.out⟩
      · have hfulli : ¬ (n : Int) - (t.size : Int) < ((outE t g).size : Int) := hfull
        have HN : Hid (appJ n false t d g = if g = [] then (0, false, t, d) else if d.off = true then (251, true, t, d)
            else if (writeD d (t.size + 1) ((outE t g).extract 1 (outE t g).size)).off = true then (251, true, t, writeD d (t.size + 1) ((outE t g).extract 1 (outE t g).size))
            else if (writeD (syncD (writeD d (t.size + 1) ((outE t g).extract 1 (outE t g).size))) t.size ((outE t g).extract 0 1)).off = true then
              (251, true, t, writeD (syncD (writeD d (t.size + 1) ((outE t g).extract 1 (outE t g).size))) t.size ((outE t g).extract 0 1))
            else (0, false, growAll t g, syncD (writeD (syncD (writeD d (t.size + 1) ((outE t g).extract 1 (outE t g).size))) t.size ((outE t g).extract 0 1)))) := Lib.hid (by
          rw [appJ, if_neg, if_neg hfull]
          simp only [Bool.false_eq_true, false_or, List.any_eq_true, decide_eq_true_eq, not_exists, not_and]
          exact fun r hr => by have := HSM2.out r hr; omega)
        by_cases hg : g = []
        · subst hg
          have hO : Hid (appJ n false t d [] = (0, false, t, d)) := Lib.hid (by rw [HN.out, if_pos rfl])
          have e0 : outE t [] = ⟨#[]⟩ := rfl
          rw [e0] at hfulli ⊢
          clear e0 hol2 h1i h1 HN hfull HSM2
          go_wp2_with (go_at_call 18; refine RO.out.mono ?_; rintro e w5 ⟨rfl, hB5⟩; have HB5 := Lib.hid hB5; clear hB5)
          go_ret
          rw [hO.out]
          exact ⟨rfl, ((HA.out.below HB.out).below HB5.out).out HH.out⟩
        · have hpos := outE_pos t g hg
          rw [if_neg hg] at HN
          have hne0 : ((outE t g).toList == ([] : List UInt8)) = false := by
            apply Bool.eq_false_iff.2
            intro h
            have h2 : (outE t g).toList = (⟨#[]⟩ : ByteArray).toList := by simpa using h
            rw [str_ext h2] at hpos
            exact absurd hpos (by decide)
          have HGS := Lib.hid (growAll_size g t)
          have HGH : Hid ((growAll t g).head = (growAll tv0 (growAll t g).recs).head) := Lib.hid (by rw [growAll_recs, growAll_append]; exact growAll_headEq g _ _ hhd.out.symm)
          generalize outE t g = O at *
          have hOi : (1 : Int) ≤ (O.size : Int) := by omega
          have hOn : 1 ≤ O.size := by omega
          clear hfull
          go_wp2_with (first
            | (go_at_call 18; refine RO.out.mono ?_; rintro e w5 ⟨rfl, hB5⟩; have HB5 := Lib.hid hB5; clear hB5)
            | fail)
          have HA5 := Lib.hid ((HA.out.below HB.out).below HB5.out)
          have HA5d : Hid (RAt w w5.drew jb bx n gs cs gs cs lv lv0 lv0 false t d) := Lib.hid (HA5.out.below (Below.refl _ _).drew)
          have p0 := HA5.out.c0
          have p2 := HA5.out.c2
          have hwr : IntKind.i64.wrap ((t.size : Int) + 1) = (t.size : Int) + 1 := by rw [IntKind.wrap_i64]; omega
          have hx1 : (O.extract 1 O.size).size = O.size - 1 := by rw [ByteArray.size_extract]; omega
          have hx0 : (O.extract 0 1).size = 1 := by rw [ByteArray.size_extract]; omega
          clear k3 k1
          by_cases ho : d.off = true
          · rw [if_pos ho] at HN
            have W1 := Lib.hid (fun W (h : RAt w W jb bx n gs cs gs cs lv lv0 lv0 false t d) => h.write_off ho ((t.size : Int) + 1) (O.extract 1 O.size))
            clear ho
            go_region_held3 (fun w' => w'.cell? ⟨jb, 0, none⟩ = some (.pointer (some ⟨bx, 0, none⟩)) ∧ w'.cell? ⟨jb, 2, none⟩ = some (.int .i64 (t.size : Int)))
              (first | exact ⟨p0, p2⟩ | exact ⟨q0, q2⟩ | go_keep)
              (first
                | (go_at_call 13; refine (W1.out _ HA5d.out).mono ?_; rintro e w6 ⟨rfl, rfl⟩)
                | fail)
            all_goals
              have f3 := HA5d.out.f 3
              have q3 := HA5d.out.c3
              go_wp2
              go_ret
              rw [HN.out]
              exact ⟨rfl, HA5d.out.broken HH.out⟩
          rw [if_neg ho] at HN
          have ho' : d.off = false := by simpa using ho
          have W1 : Hid (∀ W (h : RAt w W jb bx n gs cs gs cs lv lv0 lv0 false t d), Calls Tryz.prog 13 #[.pointer (some ⟨bx, 0, none⟩), .int .i64 ((t.size : Int) + 1), .string (O.extract 1 O.size)] W fun e w' => e = .returned (.int .i64 0) ∧ ∃ gs2 cs2 lv2, RAt w w' jb bx n gs cs gs2 cs2 lv lv0 lv2 false t (writeD d (t.size + 1) (O.extract 1 O.size))) := Lib.hid (fun W h => by
            have := h.write ho' (t.size + 1) (O.extract 1 O.size) (by omega) (by omega)
            simpa using this)
          obtain ⟨d1, hd1⟩ : ∃ d1, d1 = writeD d (t.size + 1) (O.extract 1 O.size) := ⟨_, rfl⟩
          rw [← hd1] at HN W1
          have hd1p : d1.pe.length ≤ 100001 := by rw [hd1]; simp [writeD]; omega
          clear hd1 ho ho'
          by_cases hw1 : d1.off = true
          · rw [if_pos hw1] at HN
            have HW := Lib.hid hw1
            clear hw1
            go_region_held3 (fun w' => w'.cell? ⟨jb, 0, none⟩ = some (.pointer (some ⟨bx, 0, none⟩)) ∧ w'.cell? ⟨jb, 2, none⟩ = some (.int .i64 (t.size : Int)))
              (first | exact ⟨p0, p2⟩ | exact ⟨q0, q2⟩ | go_keep)
              (first
                | (go_at_call 13; refine (W1.out _ HA5d.out).mono ?_; rintro e w6 ⟨rfl, gs1, cs1, lv1, hR⟩; have HA6 := Lib.hid hR; have q0 := hR.c0; have q2 := hR.c2; clear hR)
                | fail)
            all_goals
              go_wp2_with (first
                | (go_at_call 37; refine (HA6.out.sync_off HW.out).mono ?_; rintro e w7 ⟨rfl, rfl⟩; have f3 := HA6.out.f 3; have q3 := HA6.out.c3)
                | fail)
              go_ret
              rw [HN.out]
              exact ⟨rfl, HA6.out.broken HH.out⟩
          rw [if_neg hw1] at HN
          have HW : Hid (d1.off = false) := Lib.hid (by simpa using hw1)
          clear hw1
          obtain ⟨d2, hd2⟩ : ∃ d2, d2 = writeD (syncD d1) t.size (O.extract 0 1) := ⟨_, rfl⟩
          have W2 : Hid (∀ W g1 c1 l1 (h : RAt w W jb bx n gs cs g1 c1 lv lv0 l1 false t (syncD d1)), Calls Tryz.prog 13 #[.pointer (some ⟨bx, 0, none⟩), .int .i64 (t.size : Int), .string (O.extract 0 1)] W fun e w' => e = .returned (.int .i64 0) ∧ ∃ gs2 cs2 lv2, RAt w w' jb bx n gs cs gs2 cs2 lv lv0 lv2 false t d2) := Lib.hid (fun W g1 c1 l1 h => by
            rw [hd2]
            exact h.write HW.out t.size (O.extract 0 1) (by omega) (Nat.zero_le _))
          rw [← hd2] at HN
          clear hd2
          by_cases hw2 : d2.off = true
          · rw [if_pos hw2] at HN
            have HW2 := Lib.hid hw2
            clear hw2
            go_region_held3 (fun w' => w'.cell? ⟨jb, 0, none⟩ = some (.pointer (some ⟨bx, 0, none⟩)) ∧ w'.cell? ⟨jb, 2, none⟩ = some (.int .i64 (t.size : Int)))
              (first | exact ⟨p0, p2⟩ | exact ⟨q0, q2⟩ | go_keep)
              (first
                | (go_at_call 13; refine (W1.out _ HA5d.out).mono ?_; rintro e w6 ⟨rfl, gs1, cs1, lv1, hR⟩; have HA6 := Lib.hid hR; have q0 := hR.c0; have q2 := hR.c2; clear hR)
                | fail)
            all_goals
              go_wp2_with (first
                | (go_at_call 37; refine (HA6.out.sync HW.out).mono ?_; rintro e w7 ⟨rfl, gs3, cs3, lv3, hR⟩; have HA7 := Lib.hid hR; clear p0 p2 q0 q2; have p0 := hR.c0; have p2 := hR.c2; clear hR)
                | fail)
              have HA7d : Hid (RAt w w7.drew jb bx n gs cs gs3 cs3 lv lv0 lv3 false t (syncD d1)) := Lib.hid (HA7.out.below (Below.refl _ _).drew)
              go_region_held3 (fun w' => w'.cell? ⟨jb, 0, none⟩ = some (.pointer (some ⟨bx, 0, none⟩)) ∧ w'.cell? ⟨jb, 2, none⟩ = some (.int .i64 (t.size : Int)))
                (first | exact ⟨p0, p2⟩ | exact ⟨q0, q2⟩ | go_keep)
                (first
                  | (go_at_call 13; refine (W2.out _ _ _ _ HA7d.out).mono ?_; rintro e w8 ⟨rfl, gs4, cs4, lv4, hR⟩; have HA8 := Lib.hid hR; have q0 := hR.c0; have q2 := hR.c2; clear hR)
                  | fail)
              all_goals
                go_wp2_with (first
                  | (go_at_call 37; refine (HA8.out.sync_off HW2.out).mono ?_; rintro e w9 ⟨rfl, rfl⟩; have f3 := HA8.out.f 3; have q3 := HA8.out.c3)
                  | fail)
                go_ret
                rw [HN.out]
                exact ⟨rfl, HA8.out.broken HH.out⟩
          · rw [if_neg hw2] at HN
            have HW2 : Hid (d2.off = false) := Lib.hid (by simpa using hw2)
            clear hw2
            go_region_held3 (fun w' => w'.cell? ⟨jb, 0, none⟩ = some (.pointer (some ⟨bx, 0, none⟩)) ∧ w'.cell? ⟨jb, 2, none⟩ = some (.int .i64 (t.size : Int)))
              (first | exact ⟨p0, p2⟩ | exact ⟨q0, q2⟩ | go_keep)
              (first
                | (go_at_call 13; refine (W1.out _ HA5d.out).mono ?_; rintro e w6 ⟨rfl, gs1, cs1, lv1, hR⟩; have HA6 := Lib.hid hR; have q0 := hR.c0; have q2 := hR.c2; clear hR)
                | fail)
            all_goals
              go_wp2_with (first
                | (go_at_call 37; refine (HA6.out.sync HW.out).mono ?_; rintro e w7 ⟨rfl, gs3, cs3, lv3, hR⟩; have HA7 := Lib.hid hR; clear p0 p2 q0 q2; have p0 := hR.c0; have p2 := hR.c2; clear hR)
                | fail)
              have HA7d : Hid (RAt w w7.drew jb bx n gs cs gs3 cs3 lv lv0 lv3 false t (syncD d1)) := Lib.hid (HA7.out.below (Below.refl _ _).drew)
              go_region_held3 (fun w' => w'.cell? ⟨jb, 0, none⟩ = some (.pointer (some ⟨bx, 0, none⟩)) ∧ w'.cell? ⟨jb, 2, none⟩ = some (.int .i64 (t.size : Int)))
                (first | exact ⟨p0, p2⟩ | exact ⟨q0, q2⟩ | go_keep)
                (first
                  | (go_at_call 13; refine (W2.out _ _ _ _ HA7d.out).mono ?_; rintro e w8 ⟨rfl, gs4, cs4, lv4, hR⟩; have HA8 := Lib.hid hR; have q0 := hR.c0; have q2 := hR.c2; clear hR)
                  | fail)
              all_goals
                go_wp2_with (first
                  | (go_at_call 37; refine (HA8.out.sync HW2.out).mono ?_; rintro e w9 ⟨rfl, gs5, cs5, lv5, hR⟩; have HA9 := Lib.hid hR; clear p0 p2 q0 q2; have p1 := hR.c1; have hs9 := ltOf hR.j.cells; clear hR)
                  | (at_builtin; refine wpList_append_strs rfl (.tmp 105) (.tmp 106) rfl w9.heap.size v3 _ _ rfl O3.out 0 _ g.length g rfl (own_updB (SL_kept HSV.out.row HA9.out.m.1 (fun k e f => HSV.out.ap k e ((HH.out k).2 (.inr (.inr f))))) (Upd.of_below (S := fun _ => False) B3.out) (fun _ _ f => f)) (by omega) B3.out.size ?_
                     intro v4 w11 hown hgr
                     obtain ⟨N4, hN4⟩ : ∃ N, 0 + t.recs.length + g.length = N := ⟨_, rfl⟩
                     rw [hN4] at hown
                     have HN4 := Lib.hid hN4
                     obtain ⟨A4, c4, rfl⟩ := own_formS hown
                     clear hN4
                     have O4 := Lib.hid hown
                     have hB4 := B3.out.grown hgr B3.out.size (fun k e => (O3.out.lt k e).1)
                     have B4 := Lib.hid hB4
                     have HA11 := HA9.out.below hB4
                     have r1 := HA11.c1
                     have s1 := HA11.f 1
                     have s2 : (w11.setCell ⟨jb, 1, none⟩ (.slice A4 N4 c4)).frozen? ⟨jb, 2, none⟩ = false := frozenOf (setOf_ HA11.j.cells 1 (.slice A4 N4 c4)) 2
                     have r2 : (w11.setCell ⟨jb, 1, none⟩ (.slice A4 N4 c4)).cell? ⟨jb, 2, none⟩ = some (.int .i64 (t.size : Int)) := cellOf (setOf_ HA11.j.cells 1 (.slice A4 N4 c4)) 2
                     clear HA11 hB4 hown hgr)
                  | (at_builtin; refine wpList_append_strs rfl (.tmp 98) (.tmp 102) rfl w9.heap.size (.slice none 0 0) 0 [] rfl (World.ownsRow_nil _ _ _ _) (jb + 1) lv t.recs.length t.recs rfl HA9.out.j.row (by omega) (Nat.le_refl _) ?_
                     intro v3 w10 hown hgr
                     have O3 := Lib.hid hown
                     have B3 : Hid (Below w9.heap.size w9 w10) := Lib.hid ((Below.refl _ w9).grown hgr (Nat.le_refl _) (fun k e => by cases e))
                     have r0 := (HA9.out.below B3.out).c1
                     clear hown hgr)
                  | fail)
                have hwz : IntKind.i64.wrap ((t.size : Int) + (O.size : Int)) = (t.size : Int) + (O.size : Int) := by rw [IntKind.wrap_i64]; omega
                go_wp2
                go_ret
                have hN := HN4.out
                have HF := RAt.done (t' := growAll t g) (z := t.size + O.size) HH.out HA9.out B4.out O4.out (by simp; omega) (by rw [growAll_recs]; rfl) HGS.out (by simp; omega) (by omega) HGH.out
                have hc : ((t.size + O.size : Nat) : Int) = (t.size : Int) + (O.size : Int) := by push_cast; rfl
                rw [hc] at HF
                rw [HN.out]
                exact ⟨rfl, HF⟩
end Go.Proofs.YthlmgookaljgnaaGreatDoor
