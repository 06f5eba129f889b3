/- The journal's tape: load.
  Binding of chains, the plain law: two lists of records with one head hold two strings with one Sum, or one whose Sum is the head of no records.
  The journal: open, with the deferred closure that recovers.
  The journal: first.
  The disk: what a world holds of one; contracts of its small functions.
  The disk: contracts of the functions that write.
  The disk: settle, Sync, Read, Cut, New, and the calls of Write that fail.
  The disk: New.
-/
import Derived.Test.YthlmgookaljgnaaGreatDoorMd
import Derived.Test.YthlmgookaljgnaaGreatDoorMa
import Derived.Test.YthlmgookaljgnaaGreatDoorProg
import Derived.Deep.LoopGhost
import Derived.Defers
import Derived.Recover
import Derived.LoopTactic
import Derived.Deep.RegionHeld3
import Derived.Deep.AppendLies
import Derived.Deep.DeepCutAuto
namespace Go.Proofs.YthlmgookaljgnaaGreatDoor
open Go.RowKit Go.Shelf
set_option linter.unusedVariables false
set_option linter.unusedSimpArgs false

/-- the sentinel -/
def damE (a : Addr) : Value := .iface 218 (.pointer (some a))
def DamLaid (a : Addr) (w : World) : Prop := w.cell? ⟨0, 0, none⟩ = some (damE a) ∧ 0 < w.heap.size
theorem DamLaid.upd {S : Nat → Prop} {a : Addr} {w w' : World} (h : DamLaid a w) (hU : Upd S w w') (hS : ¬ S 0) : DamLaid a w' := ⟨hU.cell h.1 hS, Nat.lt_of_lt_of_le h.2 hU.size⟩

theorem chk_true (w : World) : Calls Tryz.prog 90 #[.bool true] w fun e w' => e = .returned (.tuple #[]) ∧ w = w' := by
  go_enter Tryz.func90, Tryz.ntmps90
  go_wp2
  go_end0
  exact ⟨rfl, rfl⟩
theorem chk_false {a : Addr} {w : World} (h : DamLaid a w) : Calls Tryz.prog 90 #[.bool false] w fun e w' => e = .panicked [{ v := damE a, recovered := false }] ∧ w = w' := by
  have h1 := h.1
  clear h
  unfold damE at *
  go_enter Tryz.func90, Tryz.ntmps90
  go_wp2
  exact ⟨rfl, rfl, rfl⟩

def loadP (s : ByteArray) : Nat → TV → Option TV
  | 0, t => some t
  | f + 1, t => if h : t.size < s.size then
      if s[t.size] = 0 then some t
      else if s[t.size] = 1 then
        match decS s (t.size + 1) with
        | some (r, q) => if q + 32 ≤ s.size ∧ recE t.head r = s.extract t.size (q + 32) then loadP s f ⟨t.recs ++ [r], chainB t.head r, t.size + (recE t.head r).size⟩ else none
        | none => none
      else none
    else some t
theorem decS_bounds {s : ByteArray} {p q : Nat} {r : ByteArray} (h : decS s p = some (r, q)) : r.size ≤ 65536 ∧ q ≤ s.size ∧ p < q := by
  unfold decS at h
  split at h
  · rename_i n q' hI
    obtain ⟨b1, b2, b3, b4⟩ := decGo_bounds s p 9 0 0 _ (by omega) (by decide) hI
    dsimp only at b3 b4
    split at h
    · cases h
    · cases h
      refine ⟨?_, by omega, by omega⟩
      rw [ByteArray.size_extract]; omega
  · cases h
theorem recE_size (h r : ByteArray) : 33 ≤ (recE h r).size := by
  rw [recE, ByteArray.size_append, ByteArray.size_append, chainB, sumB_size]
  have : (⟨#[1]⟩ : ByteArray).size = 1 := rfl
  omega

theorem u8_ne1 {x : UInt8} (h : ¬ x = 1) : ¬ (x.toNat : Int) = 1 := fun e => h (UInt8.toNat_inj.1 (by
  have : x.toNat = 1 := by omega
  rw [this]; rfl))

theorem str_ext {a b : ByteArray} (h : a.toList = b.toList) : a = b := beq_iffB.1 (by rw [beq_toListBytes, h]; exact beq_self_eq_true _)
/-- what load keeps -/
structure LoadI (w : World) (b : Nat) (T : TypeId) (rest : List Value) (lv : Value) (t' : TV) (wr : World) : Prop where
  own : ∃ lv', TapeAt wr b T rest lv' t' ∧ (lv'.ownBlock = lv.ownBlock ∨ ∃ g, lv'.ownBlock = some g ∧ w.heap.size ≤ g)
  upd : Upd (fun k => k = b ∨ lv.ownBlock = some k) w wr
  len : t'.recs.length ≤ t'.size

set_option maxRecDepth 100000 in
set_option maxHeartbeats 4000000 in
theorem load_any {w : World} {b : Nat} {T : TypeId} {rest : List Value} {lv : Value} {t : TV} (h : TapeAt w b T rest lv t) (s : ByteArray) (hs : s.size ≤ 900000) (hl : t.recs.length ≤ t.size) (hz : t.size ≤ s.size) (hR : RoundLaid w) (hnb : b ≠ 3) (a : Addr) (hD : DamLaid a w) (hnd : b ≠ 0)
    (hnl : lv.ownBlock ≠ some 3) (hnl2 : lv.ownBlock ≠ some 0) :
    Calls Tryz.prog 70 #[.pointer (some ⟨b, 0, none⟩), .string s] w fun e w' =>
      (∃ t', loadP s (s.size + 1) t = some t' ∧ e = .returned (.tuple #[]) ∧ LoadI w b T rest lv t' w' ∧ t'.size ≤ s.size) ∨ (loadP s (s.size + 1) t = none ∧ e = .panicked [{ v := damE a, recovered := false }] ∧ Upd (fun k => k = b ∨ lv.ownBlock = some k) w w') := by
  have H := Lib.hid h
  have HR := Lib.hid hR
  have HD := Lib.hid hD
  have HN := Lib.hid (And.intro hnl hnl2)
  clear h hR hD hnl hnl2
  go_enter Tryz.func70, Tryz.ntmps70
  go_wp2
  go_loopg [] (s.size + 1) (fun f wr => ∃ t', loadP s (s.size + 1) t = loadP s f t' ∧ s.size - t'.size < f ∧ LoadI w b T rest lv t' wr ∧ t'.size ≤ s.size)
  case atStart => exact ⟨t, rfl, by omega, ⟨⟨lv, H.out, .inl rfl⟩, Upd.refl _ _, hl⟩, hz⟩
  case round =>
    obtain ⟨t', hlp, hf, hI, htz⟩ := hrel
    obtain ⟨f, rfl⟩ : ∃ f, gk = f + 1 := ⟨gk - 1, by omega⟩
    have HLP := Lib.hid hlp
    have HI := Lib.hid hI
    clear hlp hI
    obtain ⟨lv', hT, hw⟩ := HI.out.own
    have HT := Lib.hid hT
    have HW := Lib.hid hw
    have c2 : wr.cell? ⟨b, 2, none⟩ = some (.int .i64 (t'.size : Int)) := cellOf hT.cells 2
    clear hT hw
    by_cases hlt : t'.size < s.size
    · have hlti : (t'.size : Int) < (s.size : Int) := by omega
      by_cases hz0 : s[t'.size] = 0
      · have hP : Hid (loadP s (s.size + 1) t = some t') := Lib.hid (by rw [HLP.out, loadP, dif_pos hlt, if_pos hz0])
        have hi : (s[t'.size].toNat : Int) = 0 := by rw [hz0]; rfl
        go_wp2
        go_end0
        exact .inl ⟨t', hP.out, rfl, HI.out, htz⟩
      · have hDw : DamLaid a wr := HD.out.upd HI.out.upd (fun e => e.elim (fun e => hnd e.symm) HN.out.2)
        have hRw : RoundLaid wr := HR.out.upd HI.out.upd (fun e => e.elim (fun e => hnb e.symm) HN.out.1)
        have hi0 : ¬ (s[t'.size].toNat : Int) = 0 := fun e => hz0 (UInt8.toNat_inj.1 (by simpa using e))
        have CF := Lib.hid (chk_false hDw)
        have HDW := Lib.hid hDw
        have HRW := Lib.hid hRw
        clear hDw hRw
        by_cases h1 : s[t'.size] = 1
        · have hi1 : (s[t'.size].toNat : Int) = 1 := by rw [h1]; rfl
          have hp2 : Hid (∀ W, Calls Tryz.prog 91 #[.string s, .int .i64 ((t'.size : Int) + 1)] W fun e w' => e = .returned (outS (decS s (t'.size + 1))) ∧ Below W.heap.size W w') := Lib.hid (fun W => by
            have := String_any s (t'.size + 1) (by omega) (by omega) W
            simpa using this)
          rcases hdec : decS s (t'.size + 1) with _ | ⟨r, q⟩
          · have hP : Hid (loadP s (s.size + 1) t = none) := Lib.hid (by rw [HLP.out, loadP, dif_pos hlt, if_neg hz0, if_pos h1, hdec])
            rw [hdec] at hp2
            clear hdec h1 hz0
            go_wp2_with (first
              | (go_at_call 91
                 refine (hp2.out _).mono ?_
                 unfold outS
                 rintro e w' ⟨rfl, hB⟩
                 have HB := Lib.hid hB
                 clear hB)
              | (go_at_call 90; with_reducible refine Calls.mono (chk_true _) ?_; rintro e w' ⟨rfl, rfl⟩)
              | (go_at_call 90; with_reducible refine Calls.mono (chk_false (HDW.out.upd (Upd.of_below (S := fun _ => False) HB.out) (fun h => h))) ?_; rintro e w' ⟨rfl, rfl⟩))
            exact ⟨by simp, .inr ⟨hP.out, rfl, HI.out.upd.trans (Upd.of_below (S := fun _ => False) HB.out) (fun _ _ h => h.elim)⟩⟩
          · obtain ⟨br, bq, bp⟩ := decS_bounds hdec
            rw [hdec] at hp2
            have AD := Lib.hid (fun W (hT : TapeAt W b T rest lv' t') (hR : RoundLaid W) => add_any2 hT r br (by have := HI.out.len; omega) (by omega) hR hnb)
            have HLP2 : Hid (loadP s (s.size + 1) t = if q + 32 ≤ s.size ∧ recE t'.head r = s.extract t'.size (q + 32) then loadP s f ⟨t'.recs ++ [r], chainB t'.head r, t'.size + (recE t'.head r).size⟩ else none) := Lib.hid (by rw [HLP.out, loadP, dif_pos hlt, if_neg hz0, if_pos h1, hdec])
            clear hdec h1 hz0 HLP
            by_cases hq : q + 32 ≤ s.size
            · have hqi : (q : Int) + 32 ≤ (s.size : Int) := by omega
              have hb5 : (t'.size : Int) ≤ (q : Int) + 32 := by omega
              have hb6 : t'.size ≤ q + 32 := by omega
              have hb7 : 0 ≤ (q : Int) + 32 := by omega
              go_wp2_with (first
                | (go_at_call 91
                   refine (hp2.out _).mono ?_
                   unfold outS
                   rintro e w' ⟨rfl, hB⟩
                   have HB := Lib.hid hB
                   clear hB)
                | (go_at_call 90; with_reducible refine Calls.mono (chk_true _) ?_; rintro e w' ⟨rfl, rfl⟩))
              have HIB : Hid (LoadI w b T rest lv t' w') := Lib.hid ⟨⟨lv', HT.out.below HB.out, HW.out⟩, HI.out.upd.trans (Upd.of_below (S := fun _ => False) HB.out) (fun _ _ h => h.elim), HI.out.len⟩
              have HTB := Lib.hid ((HT.out.below HB.out).below (Below.refl _ _).drew)
              have HRB := Lib.hid ((HRW.out.below HB.out).below (Below.refl _ _).drew)
              obtain ⟨q2, hq2⟩ : ∃ q2, q2 = q + 32 := ⟨_, rfl⟩
              have HQ2 := Lib.hid hq2
              have hqq : (q : Int) + 32 = (q2 : Int) := by omega
              have hq3 : (q2 : Int) ≤ (s.size : Int) := by omega
              have hq4 : (t'.size : Int) ≤ (q2 : Int) := by omega
              have hq5 : (q : Int) ≤ 1000000 := by omega
              have hw2 : IntKind.i64.wrap (q2 : Int) = (q2 : Int) := by rw [IntKind.wrap_i64]; omega
              clear hq2 hqi hb5 hb6 hb7 CF
              refine wp_region_any (by kernel_rfl) ?_
              change wpAny _ _ _ _ _ _ _ (World.drew _)
              refine wpAny_take (i := 0) (v := ?_) rfl (by kernel_rfl) (by kernel_rfl) (by kernel_rfl) (fun _ _ _ h => h) (Or.inl ⟨by rfl, ?_⟩) ?_
              rotate_left
              · intro W; go_simp; with_reducible rfl
              try simp only [Act.put, List.setIfInBounds_toArray, List.set_cons_zero, List.set_cons_succ]
              refine wpAny_take (i := 1) (v := ?_) rfl (by kernel_rfl) (by kernel_rfl) (by kernel_rfl) (fun _ _ _ h => h) (Or.inl ⟨by rfl, ?_⟩) ?_
              rotate_left
              · intro W; go_simp; with_reducible rfl
              try simp only [Act.put, List.setIfInBounds_toArray, List.set_cons_zero, List.set_cons_succ]
              refine wpAny_take (i := 3) (v := ?_) rfl (by kernel_rfl) (by kernel_rfl) (by kernel_rfl) (fun _ _ _ h => h) (Or.inl ⟨by rfl, ?_⟩) ?_
              rotate_left
              · intro W; go_simp; with_reducible rfl
              try simp only [Act.put, List.setIfInBounds_toArray, List.set_cons_zero, List.set_cons_succ]
              refine wpAny_take (i := 4) (v := ?_) rfl (by kernel_rfl) (by kernel_rfl) (by kernel_rfl) (fun _ _ _ h => h) (Or.inl ⟨by rfl, ?_⟩) ?_
              rotate_left
              · intro W; go_simp; with_reducible rfl
              try simp only [Act.put, List.setIfInBounds_toArray, List.set_cons_zero, List.set_cons_succ]
              refine wpAny_take (i := 5) (v := ?_) rfl (by kernel_rfl) (by kernel_rfl) (by kernel_rfl) (fun _ _ _ h => h) (Or.inl ⟨by rfl, ?_⟩) ?_
              rotate_left
              · intro W; go_simp; with_reducible rfl
              try simp only [Act.put, List.setIfInBounds_toArray, List.set_cons_zero, List.set_cons_succ]
              refine wpAny_take (i := 6) (v := ?_) rfl (by kernel_rfl) (by kernel_rfl) (by kernel_rfl) (fun _ _ _ h => h) (Or.inl ⟨by rfl, ?_⟩) ?_
              rotate_left
              · intro W; go_simp; with_reducible rfl
              try simp only [Act.put, List.setIfInBounds_toArray, List.set_cons_zero, List.set_cons_succ]
              refine wpAny_take (i := 7) (v := ?_) rfl (by kernel_rfl) (by kernel_rfl) (by kernel_rfl) (fun _ _ _ h => h) (Or.inl ⟨by rfl, ?_⟩) ?_
              rotate_left
              · intro W; go_simp; with_reducible rfl
              try simp only [Act.put, List.setIfInBounds_toArray, List.set_cons_zero, List.set_cons_succ]
              have HTB := Lib.hid ((HT.out.below HB.out).below (Below.refl _ _).drew)
              have HRB := Lib.hid ((HRW.out.below HB.out).below (Below.refl _ _).drew)
              refine wpAny_ready (rs := [2]) (by kernel_rfl) (by simp) ?_
              refine AllReady.cons rfl (fun K hK => ?_) AllReady.nil
              go_simp
              refine (AD.out _ HTB.out HRB.out).mono ?_
              rintro e W2 ⟨rfl, lv2, hT2, hU2, hw2'⟩
              have HT2 := Lib.hid hT2
              have HU2 := Lib.hid hU2
              have HW2 := Lib.hid hw2'
              clear hT2 hU2 hw2'
              refine hK _ _ ?_
              clear hK K
              try simp only [Act.put, List.setIfInBounds_toArray, List.set_cons_zero, List.set_cons_succ]
              refine wpAny_take (i := 8) (v := ?_) rfl (by kernel_rfl) (by kernel_rfl) (by kernel_rfl) (fun _ _ _ h => h) (Or.inl ⟨by rfl, ?_⟩) ?_
              rotate_left
              · intro W; go_simp; with_reducible rfl
              try simp only [Act.put, List.setIfInBounds_toArray, List.set_cons_zero, List.set_cons_succ]
              refine wpAny_ready (rs := [9]) (by kernel_rfl) (by simp) ?_
              refine AllReady.cons rfl (fun K hK => ?_) AllReady.nil
              go_simp
              have HU3 : Hid (Upd (fun k => k = b ∨ lv.ownBlock = some k) w W2) := Lib.hid ((HI.out.upd.trans (Upd.of_below (S := fun _ => False) HB.out) (fun _ _ h => h.elim)).drew.trans HU2.out (fun k hk h => h.elim .inl (fun e => by
                rcases HW.out with h1 | ⟨g, h1, h2⟩
                · exact .inr (h1 ▸ e)
                · rw [h1] at e; injection e with e; omega)))
              by_cases he : recE t'.head r = s.extract t'.size (q + 32)
              · have hb : ((recE t'.head r).toList == (s.extract t'.size q2).toList) = true := by rw [HQ2.out, he]; simp
                rw [hb]
                refine (chk_true _).mono ?_
                rintro e W3 ⟨rfl, rfl⟩
                refine hK _ _ ?_
                clear hK K hb
                refine wpAny_done (by kernel_rfl) ?_ _
                have hsz : (recE t'.head r).size = q + 32 - t'.size := by rw [he, ByteArray.size_extract]; omega
                have h33 := recE_size t'.head r
                have hP2 : loadP s (s.size + 1) t = loadP s f ⟨t'.recs ++ [r], chainB t'.head r, t'.size + (recE t'.head r).size⟩ := by rw [HLP2.out, if_pos ⟨hq, he⟩]
                have HP2 := Lib.hid hP2
                clear hP2 he
                try go_wp2
                go_roundg f
                case measure => omega
                case rel =>
                  refine ⟨_, HP2.out, by simp only; omega, ⟨⟨lv2, HT2.out, ?_⟩, HU3.out, ?_⟩, by simp only; omega⟩
                  · rcases HW2.out with h1 | ⟨g, h1, h2⟩
                    · rw [h1]; exact HW.out
                    · exact .inr ⟨g, h1, Nat.le_trans (HI.out.upd.size) (Nat.le_trans HB.out.size h2)⟩
                  · have := HI.out.len
                    simp only [List.length_append, List.length_singleton]; omega
              · have hb : ((recE t'.head r).toList == (s.extract t'.size q2).toList) = false := by
                  rw [HQ2.out]
                  apply Bool.eq_false_iff.2
                  intro h
                  exact he (str_ext (by simpa using h))
                rw [hb]
                refine (chk_false (HD.out.upd HU3.out (fun e => e.elim (fun e => hnd e.symm) HN.out.2))).mono ?_
                rintro e W3 ⟨rfl, rfl⟩
                have hP : loadP s (s.size + 1) t = none := by rw [HLP2.out, if_neg (fun h => he h.2)]
                exact ⟨rfl, .inr ⟨hP, rfl, HU3.out⟩⟩
            · have hP : Hid (loadP s (s.size + 1) t = none) := Lib.hid (by rw [HLP2.out, if_neg (fun h => hq h.1)])
              have hqi : ¬ (q : Int) + 32 ≤ (s.size : Int) := by omega
              have CQ : Hid (∀ W, DamLaid a W → Calls Tryz.prog 90 #[.bool (decide ((q : Int) + 32 ≤ (s.size : Int)))] W fun e w' => e = .panicked [{ v := damE a, recovered := false }] ∧ W = w') := Lib.hid (fun W h => by rw [decide_eq_false hqi]; exact chk_false h)
              go_wp2_with (first
                | (go_at_call 91
                   refine (hp2.out _).mono ?_
                   unfold outS
                   rintro e w' ⟨rfl, hB⟩
                   have HB := Lib.hid hB
                   clear hB)
                | (go_at_call 90; with_reducible refine Calls.mono (chk_true _) ?_; rintro e w' ⟨rfl, rfl⟩)
                | (go_at_call 90; with_reducible refine Calls.mono (CQ.out _ (HDW.out.upd (Upd.of_below (S := fun _ => False) HB.out) (fun h => h))) ?_; rintro e w' ⟨rfl, rfl⟩))
              exact ⟨by simp, .inr ⟨hP.out, rfl, HI.out.upd.trans (Upd.of_below (S := fun _ => False) HB.out) (fun _ _ h => h.elim)⟩⟩
        · have hi1 : ¬ (s[t'.size].toNat : Int) = 1 := u8_ne1 h1
          have hP : Hid (loadP s (s.size + 1) t = none) := Lib.hid (by rw [HLP.out, loadP, dif_pos hlt, if_neg hz0, if_neg h1])
          have hb1 : ((s[t'.size].toNat : Int) == 1) = false := by simpa using hi1
          have CG : Hid (Calls Tryz.prog 90 #[.bool ((s[t'.size].toNat : Int) == 1)] wr fun e w' => e = .panicked [{ v := damE a, recovered := false }] ∧ wr = w') := Lib.hid (by rw [hb1]; exact CF.out)
          clear hb1
          go_wp2_with fail
          refine CG.out.mono ?_
          rintro e w' ⟨rfl, rfl⟩
          go_wp2
          exact ⟨by simp, .inr ⟨hP.out, rfl, HI.out.upd⟩⟩
    · have hP : Hid (loadP s (s.size + 1) t = some t') := Lib.hid (by rw [HLP.out, loadP, dif_neg hlt])
      have hlti : ¬ (t'.size : Int) < (s.size : Int) := by omega
      go_wp2
      go_end0
      exact .inl ⟨t', hP.out, rfl, HI.out, htz⟩
end Go.Proofs.YthlmgookaljgnaaGreatDoor
namespace Go.Proofs.YthlmgookaljgnaaGreatDoor
set_option linter.unusedVariables false

def z32 : ByteArray := ⟨#[0, 0, 0, 0, 0, 0, 0, 0, 0, 0, 0, 0, 0, 0, 0, 0, 0, 0, 0, 0, 0, 0, 0, 0, 0, 0, 0, 0, 0, 0, 0, 0]⟩
/-- the head of the records of a list, the last one first -/
def hdR : List ByteArray → ByteArray
  | [] => z32
  | s :: t => chainB (hdR t) s
/-- the strings of which Sum is computed -/
def stR : List ByteArray → List ByteArray
  | [] => []
  | s :: t => pre2 2 (hdR t) s :: stR t
theorem hdR_size (l : List ByteArray) : (hdR l).size = 32 := by
  cases l with
  | nil => rfl
  | cons s t => exact sumB_size _
theorem hdR_sum (s : ByteArray) (t : List ByteArray) : hdR (s :: t) = sumB (pre2 2 (hdR t) s) := by
  show chainB _ _ = _
  rw [chainB, catB_two]
theorem stR_length : ∀ l, (stR l).length = l.length
  | [] => rfl
  | s :: t => by simp [stR, stR_length t]
theorem stR_small : ∀ l, (∀ x ∈ l, x.size ≤ 60) → ∀ y ∈ stR l, y.size ≤ 100000
  | [], _, y, hy => by cases hy
  | s :: t, h, y, hy => by
    rcases List.mem_cons.1 hy with rfl | hy
    · have h1 := hdR_size t
      have h2 := h s (by simp)
      unfold pre2
      rw [ByteArray.size_append, ByteArray.size_append, show (⟨#[2]⟩ : ByteArray).size = 1 from rfl]; omega
    · exact stR_small t (fun x hx => h x (by simp [hx])) y hy

/-- the longer one of two lists, and its string behind the other's end -/
def longR (a b : List ByteArray) : List ByteArray := if a.length < b.length then stR b else stR a
theorem head_coll : ∀ a b, a ≠ b → hdR a = hdR b → collB (stR a) (stR b) = true ∨ (a.length ≠ b.length ∧ ∃ x, (longR a b)[min a.length b.length]? = some x ∧ sumB x = z32)
  | [], [], h, _ => absurd rfl h
  | [], s :: t, _, h => .inr ⟨by simp, pre2 2 (hdR t) s, by simp [longR, stR], by rw [← hdR_sum, ← h]; rfl⟩
  | s :: t, [], _, h => .inr ⟨by simp, pre2 2 (hdR t) s, by simp [longR, stR], by rw [← hdR_sum, h]; rfl⟩
  | s :: t, s' :: t', hn, h => by
    by_cases he : pre2 2 (hdR t) s = pre2 2 (hdR t') s'
    · obtain ⟨e1, e2⟩ := pre2_inj he (by rw [hdR_size, hdR_size])
      rcases head_coll t t' (fun e => hn (by rw [e, e2])) e1 with h1 | ⟨h1, x, h2, h3⟩
      · exact .inl (collB_tail h1)
      · refine .inr ⟨by simpa using h1, x, ?_, h3⟩
        rw [← h2]
        have : (longR (s :: t) (s' :: t')) = (if t.length < t'.length then pre2 2 (hdR t') s' else pre2 2 (hdR t) s) :: longR t t' := by
          unfold longR
          by_cases hl : t.length < t'.length
          · rw [if_pos (by simpa using hl), if_pos hl, if_pos hl]; rfl
          · rw [if_neg (by simpa using hl), if_neg hl, if_neg hl]; rfl
        rw [this, List.length_cons, List.length_cons, show min (t.length + 1) (t'.length + 1) = min t.length t'.length + 1 by omega, List.getElem?_cons_succ]
    · exact .inl (collB_head he (by rw [← hdR_sum, ← hdR_sum]; exact h))
end Go.Proofs.YthlmgookaljgnaaGreatDoor
namespace Go.Proofs.YthlmgookaljgnaaGreatDoor
open Go.RowKit Go.Shelf
set_option linter.unusedVariables false
set_option linter.unusedSimpArgs false

theorem Tryz.asError (v : Value) (xT : TypeId) (w : World) : (Instr.typeAssert (.iface 218 v) xT 73 true).run Tryz.prog w = .ok (.tuple #[.iface 218 v, .bool true]) w := run_typeAssert_hasB Tryz.underlying73 (by kernel_rfl) v xT w
theorem Tryz.nilError (w : World) : (Instr.typeAssert .nilIface 20 73 true).run Tryz.prog w = .ok (.tuple #[.nilIface, .bool false]) w := by kernel_rfl

set_option maxHeartbeats 1000000 in
theorem catch_pan (b4 b5 : Nat) (hne : b4 ≠ b5) (a : Addr) (x : Value) (y : Value) (older : List PanicEntry) (w : World) (hD : DamLaid a w) (h4 : w.cell? ⟨b4, 0, none⟩ = some x) (f4 : w.frozen? ⟨b4, 0, none⟩ = false) (h5 : w.cell? ⟨b5, 0, none⟩ = some y) (f5 : w.frozen? ⟨b5, 0, none⟩ = false) :
    CallsD Tryz.prog 68 #[.pointer (some ⟨b4, 0, none⟩), .pointer (some ⟨b5, 0, none⟩)] (.panicking ({ v := damE a, recovered := false } :: older)) w fun e u' w' =>
      e = .returned (.tuple #[]) ∧ u' = .panicking ({ v := damE a, recovered := true } :: older) ∧ w' = (w.setCell ⟨b4, 0, none⟩ (.pointer none)).setCell ⟨b5, 0, none⟩ (.int .i64 262) := by
  have hd := hD.1
  have hta := Tryz.asError
  have IS := is_same a
  unfold damE at *
  refine callsD_of_wpS Tryz.func68 rfl fun c₀ cs hu => ?_
  apply wpS_seq
  apply wpS_region
  simp [wpOpsS, go_sem, recoverD, hu, Tryz.ntmps68, Exit.thenS, hta]
  simp only [Array.replicate_succ, Array.replicate_zero, List.push_toArray, List.append_toArray, List.nil_append, List.cons_append, List.setIfInBounds_toArray, List.set_cons_zero, List.set_cons_succ]
  refine wpS_of_wp ?_
  go_wp2_with (go_at_call 69; refine (IS _).mono ?_; rintro e w' ⟨rfl, rfl⟩)
  cases c₀
  simp_all [bodyPostS, results, Tryz.results68]

set_option maxHeartbeats 1000000 in
theorem catch_idle (b4 b5 : Nat) (w : World) :
    CallsD Tryz.prog 68 #[.pointer (some ⟨b4, 0, none⟩), .pointer (some ⟨b5, 0, none⟩)] .returning w fun e u' w' => e = .returned (.tuple #[]) ∧ u' = .returning ∧ w' = w := by
  have hta := Tryz.nilError
  refine callsD_of_wpS Tryz.func68 rfl fun c₀ cs hu => ?_
  apply wpS_seq
  apply wpS_region
  simp [wpOpsS, go_sem, recoverD, hu, Tryz.ntmps68, Exit.thenS, hta]
  simp only [Array.replicate_succ, Array.replicate_zero, List.push_toArray, List.append_toArray, List.nil_append, List.cons_append, List.setIfInBounds_toArray, List.set_cons_zero, List.set_cons_succ]
  refine wpS_of_wp ?_
  go_wp2
  cases c₀
  simp_all [bodyPostS, results, Tryz.results68]

theorem jmake32 (w : World) : (Instr.makeSlice 39 (.int .i64 32) (.int .i64 32)).run Tryz.prog w = .ok (.slice (some ⟨w.heap.size, 0, none⟩) 32 32) (w.alloc (.cells (bytesV z32.data.toList).toArray 5)) := by kernel_rfl
theorem jconv32 {W : World} {g : Nat} (h : W.heap[g]? = some (.cells (bytesV z32.data.toList).toArray 5 (0, 0))) :
    (convert 39 9 (.slice (some ⟨g, 0, none⟩) 32 32)).run Tryz.prog W = .ok (.string z32) W := by
  rw [run_conv_row 39 9 5 Tryz.underlying39 Tryz.underlying5 Tryz.underlying9 g 0 32 32 _ _ h (by decide)]
  rfl
/-- a tape at its beginning -/
def tv0 : TV := ⟨[], z32, 0⟩

theorem TapeAt.setOther {w : World} {b : Nat} {T : TypeId} {rest : List Value} {lv : Value} {t : TV} (h : TapeAt w b T rest lv t) (k o : Nat) (v : Value) (h1 : k ≠ b) (h2 : lv.ownBlock ≠ some k) : TapeAt (w.setCell ⟨k, o, none⟩ v) b T rest lv t :=
  h.kept fun j hj hf => setNe (by rcases hf with e | e; exact e ▸ h1.symm; exact fun e' => h2 (e' ▸ e)) _ _

/-- the world in which open's load begins -/
structure OpenW (w : World) (bd : Nat) (W : World) : Prop where
  tape : TapeAt W (w.heap.size + 3) 67 [.pointer (some ⟨bd, 0, none⟩), .bool false] (.slice none 0 0) tv0
  c4 : W.heap[w.heap.size]? = some (.cells #[.pointer (some ⟨w.heap.size + 3, 0, none⟩)] 28 (0, 0))
  c5 : W.heap[w.heap.size + 1]? = some (.cells #[.int .i64 0] 33 (0, 0))
  bel : Below w.heap.size w W
  size : W.heap.size = w.heap.size + 4
theorem openW (w : World) (bd : Nat) : OpenW w bd ((((w.alloc (.cells #[.pointer (some ⟨w.heap.size + 3, 0, none⟩)] 28)).alloc (.cells #[.int .i64 0] 33)).alloc (.cells (bytesV z32.data.toList).toArray 5)).alloc
    (.cells #[.slice none 0 0, .string z32, .int .i64 0, .pointer (some ⟨bd, 0, none⟩), .bool false] 67)) := by
  refine ⟨⟨allocAt _ (by simp), World.ownsRow_nil _ _ _ _, by decide, rfl, by simp [tv0], by simp [tv0]⟩, ?_, ?_, ?_, by simp⟩
  · rw [allocOld (by simp; omega), allocOld (by simp; omega), allocOld (by simp)]; exact allocAt _ rfl
  · rw [allocOld (by simp), allocOld (by simp)]; exact allocAt _ (by simp)
  · exact (((((Below.refl _ w).alloc (Nat.le_refl _) _).alloc (by simp) _).alloc (by simp; omega) _).alloc (by simp; omega) _)

set_option maxRecDepth 100000 in
set_option maxHeartbeats 2000000 in
theorem openj_ok (bd : Nat) (s : ByteArray) (hs : s.size ≤ 900000) (w : World) (hR : RoundLaid w) (a : Addr) (hD : DamLaid a w) (t' : TV) (hP : loadP s (s.size + 1) tv0 = some t') :
    Calls Tryz.prog 50 #[.pointer (some ⟨bd, 0, none⟩), .string s] w fun e w' => ∃ jb lv, e = .returned (.tuple #[.pointer (some ⟨jb, 0, none⟩), .int .i64 0]) ∧ w.heap.size ≤ jb ∧ TapeAt w' jb 67 [.pointer (some ⟨bd, 0, none⟩), .bool false] lv t' ∧
      (∀ g, lv.ownBlock = some g → w.heap.size ≤ g) ∧ Below w.heap.size w w' ∧ t'.size ≤ s.size ∧ t'.recs.length ≤ t'.size := by
  have hmf : ∀ (fn : Fn) (first cap : Array Value) (w : World), (Instr.makeFunc fn first cap).run Tryz.prog w = .ok (.func fn first cap) w := fun _ _ _ _ => rfl
  have hmk := jmake32
  have HR := Lib.hid hR
  have HD := Lib.hid hD
  have HP := Lib.hid hP
  have hcv := jconv32 (W := ((w.alloc (.cells #[.pointer none] 28)).alloc (.cells #[.int .i64 0] 33)).alloc (.cells (bytesV z32.data.toList).toArray 5)) (g := w.heap.size + 2) (allocAt _ (by simp))
  clear hR hD hP
  go_enter_defers Tryz.func50, Tryz.ntmps50
  go_wp2_with fail
  have OW := Lib.hid (openW w bd)
  simp only [Nat.add_assoc, Nat.reduceAdd] at OW ⊢
  generalize ((((w.alloc (.cells #[.pointer (some ⟨w.heap.size + 3, 0, none⟩)] 28)).alloc (.cells #[.int .i64 0] 33)).alloc (.cells (bytesV z32.data.toList).toArray 5)).alloc
    (.cells #[.slice none 0 0, .string z32, .int .i64 0, .pointer (some ⟨bd, 0, none⟩), .bool false] 67)) = W0 at *
  have h1 := HD.out.2
  refine Calls.mono (load_any OW.out.tape s hs (by simp [tv0]) (by simp [tv0]) (HR.out.below OW.out.bel) (by omega) a (HD.out.upd (Upd.of_below (S := fun _ => False) OW.out.bel) (fun h => h)) (by omega) (by simp [Value.ownBlock]) (by simp [Value.ownBlock])) ?_
  rintro e W1 (⟨t2, hP2, rfl, hI, hz⟩ | ⟨hP2, _⟩)
  · obtain rfl : t2 = t' := Option.some.inj (hP2.symm.trans HP.out)
    obtain ⟨lv2, hT, hw⟩ := hI.own
    have g4 : W1.heap[w.heap.size]? = _ := (hI.upd.block _ (ltOf OW.out.c4) (fun e => e.elim (fun e => by omega) (fun e => by cases e))).trans OW.out.c4
    have g5 : W1.heap[w.heap.size + 1]? = _ := (hI.upd.block _ (ltOf OW.out.c5) (fun e => e.elim (fun e => by omega) (fun e => by cases e))).trans OW.out.c5
    have hlv : ∀ g, lv2.ownBlock = some g → w.heap.size + 4 ≤ g := fun g e => by
      rcases hw with h | ⟨g', h, h'⟩
      · rw [h] at e; cases e
      · rw [h] at e; injection e with e; have := OW.out.size; omega
    have hB : Below w.heap.size w W1 := OW.out.bel.trans (Upd.below' hI.upd (by have := OW.out.size; omega) (fun i hi e => e.elim (fun e => by omega) (fun e => by cases e)))
    have HG4 := Lib.hid g4
    have HG5 := Lib.hid g5
    have HT := Lib.hid hT
    have HI := Lib.hid hI
    have k4 : W1.cell? ⟨w.heap.size, 0, none⟩ = some (.pointer (some ⟨w.heap.size + 3, 0, none⟩)) := cellOf g4 0
    have k5 : W1.cell? ⟨w.heap.size + 1, 0, none⟩ = some (.int .i64 0) := cellOf g5 0
    have f4 : W1.frozen? ⟨w.heap.size, 0, none⟩ = false := frozenOf g4 0
    have f5 : W1.frozen? ⟨w.heap.size + 1, 0, none⟩ = false := frozenOf g5 0
    clear g4 g5 hT hw hI hP2
    dsimp only
    go_wp2
    refine leaves_cons (f := 68) (args := #[.pointer (some ⟨w.heap.size, 0, none⟩), .pointer (some ⟨w.heap.size + 1, 0, none⟩)]) (by simp) (by simp [go_sem]) ?_
    refine (catch_idle w.heap.size (w.heap.size + 1) _).mono ?_
    rintro e u' w'' ⟨rfl, rfl, rfl⟩
    have FIN : Hid (∀ W2, W2 = (W1.setCell ⟨w.heap.size, 0, none⟩ (.pointer (some ⟨w.heap.size + 3, 0, none⟩))).setCell ⟨w.heap.size + 1, 0, none⟩ (.int .i64 0) →
        W2.cell? ⟨w.heap.size, 0, none⟩ = some (.pointer (some ⟨w.heap.size + 3, 0, none⟩)) ∧ W2.cell? ⟨w.heap.size + 1, 0, none⟩ = some (.int .i64 0) ∧ TapeAt W2 (w.heap.size + 3) 67 [.pointer (some ⟨bd, 0, none⟩), .bool false] lv2 t2 ∧ Below w.heap.size w W2) := Lib.hid (by
      rintro W2 rfl
      refine ⟨?_, ?_, ?_, (hB.setCell (by simp) _).setCell (by simp) _⟩
      · rw [cellOf ((setNe (by omega) _ _).trans (setOf_ HG4.out 0 _))]; rfl
      · rw [cellOf (setOf_ ((setNe (by omega) _ _).trans HG5.out) 0 _)]; rfl
      · exact (HT.out.setOther _ _ _ (by omega) (fun e => by have := hlv _ e; omega)).setOther _ _ _ (by omega) (fun e => by have := hlv _ e; omega))
    generalize hW2 : (W1.setCell ⟨w.heap.size, 0, none⟩ (.pointer (some ⟨w.heap.size + 3, 0, none⟩))).setCell ⟨w.heap.size + 1, 0, none⟩ (.int .i64 0) = W2 at *
    obtain ⟨n4, n5, hT2, hB2⟩ := FIN.out W2 rfl
    refine ⟨.tuple #[.pointer (some ⟨w.heap.size + 3, 0, none⟩), .int .i64 0], ?_, w.heap.size + 3, lv2, rfl, by omega, hT2, fun g e => by have := hlv g e; omega, hB2, hz, HI.out.len⟩
    simp [results, Tryz.results50, go_sem, n4, n5]
  · exact absurd (hP2.symm.trans HP.out) (by simp)

set_option maxRecDepth 100000 in
set_option maxHeartbeats 2000000 in
theorem openj_bad (bd : Nat) (s : ByteArray) (hs : s.size ≤ 900000) (w : World) (hR : RoundLaid w) (a : Addr) (hD : DamLaid a w) (hP : loadP s (s.size + 1) tv0 = none) :
    Calls Tryz.prog 50 #[.pointer (some ⟨bd, 0, none⟩), .string s] w fun e w' => e = .returned (.tuple #[.pointer none, .int .i64 262]) ∧ Below w.heap.size w w' := by
  have hmf : ∀ (fn : Fn) (first cap : Array Value) (w : World), (Instr.makeFunc fn first cap).run Tryz.prog w = .ok (.func fn first cap) w := fun _ _ _ _ => rfl
  have hmk := jmake32
  have HR := Lib.hid hR
  have HD := Lib.hid hD
  have HP := Lib.hid hP
  have hcv := jconv32 (W := ((w.alloc (.cells #[.pointer none] 28)).alloc (.cells #[.int .i64 0] 33)).alloc (.cells (bytesV z32.data.toList).toArray 5)) (g := w.heap.size + 2) (allocAt _ (by simp))
  clear hR hD hP
  go_enter_defers Tryz.func50, Tryz.ntmps50
  go_wp2_with fail
  have OW := Lib.hid (openW w bd)
  simp only [Nat.add_assoc, Nat.reduceAdd] at OW ⊢
  generalize ((((w.alloc (.cells #[.pointer (some ⟨w.heap.size + 3, 0, none⟩)] 28)).alloc (.cells #[.int .i64 0] 33)).alloc (.cells (bytesV z32.data.toList).toArray 5)).alloc
    (.cells #[.slice none 0 0, .string z32, .int .i64 0, .pointer (some ⟨bd, 0, none⟩), .bool false] 67)) = W0 at *
  have h1 := HD.out.2
  refine Calls.mono (load_any OW.out.tape s hs (by simp [tv0]) (by simp [tv0]) (HR.out.below OW.out.bel) (by omega) a (HD.out.upd (Upd.of_below (S := fun _ => False) OW.out.bel) (fun h => h)) (by omega) (by simp [Value.ownBlock]) (by simp [Value.ownBlock])) ?_
  rintro e W1 (⟨t2, hP2, _⟩ | ⟨hP2, rfl, hU⟩)
  · exact absurd (hP2.symm.trans HP.out) (by simp)
  · have g4 : W1.heap[w.heap.size]? = _ := (hU.block _ (ltOf OW.out.c4) (fun e => e.elim (fun e => by omega) (fun e => by cases e))).trans OW.out.c4
    have g5 : W1.heap[w.heap.size + 1]? = _ := (hU.block _ (ltOf OW.out.c5) (fun e => e.elim (fun e => by omega) (fun e => by cases e))).trans OW.out.c5
    have hB : Below w.heap.size w W1 := OW.out.bel.trans (Upd.below' hU (by have := OW.out.size; omega) (fun i hi e => e.elim (fun e => by omega) (fun e => by cases e)))
    have HG4 := Lib.hid g4
    have HG5 := Lib.hid g5
    have k4 : W1.cell? ⟨w.heap.size, 0, none⟩ = some (.pointer (some ⟨w.heap.size + 3, 0, none⟩)) := cellOf g4 0
    have k5 : W1.cell? ⟨w.heap.size + 1, 0, none⟩ = some (.int .i64 0) := cellOf g5 0
    have f4 : W1.frozen? ⟨w.heap.size, 0, none⟩ = false := frozenOf g4 0
    have f5 : W1.frozen? ⟨w.heap.size + 1, 0, none⟩ = false := frozenOf g5 0
    have hD1 : DamLaid a W1 := HD.out.upd (Upd.of_below (S := fun _ => False) hB) (fun h => h)
    clear g4 g5 hU hP2
    dsimp only
    refine leaves_cons (f := 68) (args := #[.pointer (some ⟨w.heap.size, 0, none⟩), .pointer (some ⟨w.heap.size + 1, 0, none⟩)]) (by simp) (by simp [go_sem]) ?_
    refine (catch_pan w.heap.size (w.heap.size + 1) (by omega) a _ _ [] _ hD1 k4 f4 k5 f5).mono ?_
    rintro e u' w'' ⟨rfl, rfl, rfl⟩
    have FIN : Hid (∀ W2, W2 = (W1.setCell ⟨w.heap.size, 0, none⟩ (.pointer none)).setCell ⟨w.heap.size + 1, 0, none⟩ (.int .i64 262) →
        W2.cell? ⟨w.heap.size, 0, none⟩ = some (.pointer none) ∧ W2.cell? ⟨w.heap.size + 1, 0, none⟩ = some (.int .i64 262) ∧ Below w.heap.size w W2) := Lib.hid (by
      rintro W2 rfl
      refine ⟨?_, ?_, (hB.setCell (by simp) _).setCell (by simp) _⟩
      · rw [cellOf ((setNe (by omega) _ _).trans (setOf_ HG4.out 0 _))]; rfl
      · rw [cellOf (setOf_ ((setNe (by omega) _ _).trans HG5.out) 0 _)]; rfl)
    generalize hW2 : (W1.setCell ⟨w.heap.size, 0, none⟩ (.pointer none)).setCell ⟨w.heap.size + 1, 0, none⟩ (.int .i64 262) = W2 at *
    obtain ⟨n4, n5, hB2⟩ := FIN.out W2 rfl
    refine ⟨.tuple #[.pointer none, .int .i64 262], ?_, rfl, hB2⟩
    simp [results, Tryz.results50, go_sem, n4, n5]
end Go.Proofs.YthlmgookaljgnaaGreatDoor
namespace Go.Proofs.YthlmgookaljgnaaGreatDoor
open Go.RowKit
set_option linter.unusedVariables false

set_option maxHeartbeats 2000000 in
theorem first_any (g n cap : Nat) (hn : n ≤ 1000) (fn : Nat → Nat) (fi fc : Nat → Array Value)
    (hen : ∀ k, k < n → ∀ args w, (callFunc (fn k) args).run Tryz.prog w = .ok (.enter (fn k) args) w)
    (I : Nat → World → Prop) (B : Int → World → Prop)
    (hc : ∀ k W, k < n → I k W → W.cell? ⟨g, k, none⟩ = some (.func (.func (fn k)) (fi k) (fc k)))
    (hs : ∀ k W, k < n → I k W → Calls Tryz.prog (fn k) (fi k ++ fc k) W fun e W' => (e = .returned (.int .i64 0) ∧ I (k + 1) W') ∨ ∃ c : Int, c ≠ 0 ∧ e = .returned (.int .i64 c) ∧ B c W')
    (w : World) (h0 : I 0 w) :
    Calls Tryz.prog 32 #[.slice (some ⟨g, 0, none⟩) n cap] w fun e w' => (e = .returned (.int .i64 0) ∧ I n w') ∨ ∃ c : Int, c ≠ 0 ∧ e = .returned (.int .i64 c) ∧ B c w' := by
  have HEN := Lib.hid hen
  have HC := Lib.hid hc
  have HS := Lib.hid hs
  have H0 := Lib.hid h0
  clear hen hc hs h0
  go_enter Tryz.func32, Tryz.ntmps32
  go_wp2
  go_loopw [8] (fun iv wr => ∃ k : Nat, iv = .int .i64 k ∧ k ≤ n ∧ I k wr) (fun iv _ => n - (intOf iv).toNat)
  case atStart => exact ⟨0, rfl, Nat.zero_le _, H0.out⟩
  case round =>
    obtain ⟨k, rfl, hk, hI⟩ := hrel
    by_cases hlt : k < n
    · have c0 := HC.out k wr hlt hI
      have en := HEN.out k hlt
      have HI := Lib.hid hI
      have ST := Lib.hid (HS.out k wr hlt hI)
      clear hI
      generalize fn k = f at *
      generalize fi k = xi at *
      generalize fc k = xc at *
      have hlti : (k : Int) < (n : Int) := by omega
      go_wp2_with fail
      refine ST.out.mono ?_
      rintro e W2 (⟨rfl, hI2⟩ | ⟨c, hc, rfl, hB⟩)
      · have HI2 := Lib.hid hI2
        clear hI2
        go_wp2
        go_roundw
        case rel => exact ⟨k + 1, by go_num, by omega, HI2.out⟩
        case measure => simp [intOf]; omega
      · have HB := Lib.hid hB
        clear hB
        go_wp2
        go_ret
        exact .inr ⟨c, hc, rfl, HB.out⟩
    · obtain rfl : k = n := by omega
      have HI := Lib.hid hI
      clear hI
      go_wp2
      go_ret
      exact .inl ⟨rfl, HI.out⟩
end Go.Proofs.YthlmgookaljgnaaGreatDoor
namespace Go.Proofs.YthlmgookaljgnaaGreatDoor
open Go.RowKit

/-- A disk: has it lost its power, the scheduled cut, the durable and the visible content, the pending writes. -/
structure DV where
  off : Bool
  left : Int
  du : List UInt8
  vi : List UInt8
  pe : List (Nat × ByteArray)

def pendV (l : List (Nat × ByteArray)) : List Value := l.flatMap fun p => [.int .i64 (p.1 : Int), .string p.2]
theorem pendV_length (l : List (Nat × ByteArray)) : (pendV l).length = l.length * 2 := by
  induction l with
  | nil => rfl
  | cons x l ih => simp only [pendV, List.flatMap_cons, List.length_append, List.length_cons, List.length_nil] at *; omega
theorem pendV_append (l m : List (Nat × ByteArray)) : pendV (l ++ m) = pendV l ++ pendV m := by simp [pendV]

structure DiskAt (w : World) (bd bu bv : Nat) (pv : Value) (n : Nat) (d : DV) : Prop where
  hd : w.heap[bd]? = some (.cells #[.bool d.off, .int .i64 d.left, .slice (some ⟨bu, 0, none⟩) n n, .slice (some ⟨bv, 0, none⟩) n n, pv] 91 (0, 0))
  hu : w.heap[bu]? = some (.cells (bytesV d.du).toArray 5 (0, 0))
  hv : w.heap[bv]? = some (.cells (bytesV d.vi).toArray 5 (0, 0))
  hp : w.ownsRow 0 86 2 pv d.pe.length (pendV d.pe)
  ne : bu ≠ bv
  lu : d.du.length = n
  lv : d.vi.length = n
  lo : 1 ≤ n
  hi : n ≤ 4194304
  l0 : 0 ≤ d.left
  l1 : d.left ≤ 9223372036854775807
  fit : ∀ p ∈ d.pe, p.1 + p.2.size ≤ n

/-- The blocks of a disk. -/
def Foot (bd bu bv : Nat) (pv : Value) (k : Nat) : Prop := k = bd ∨ k = bu ∨ k = bv ∨ pv.ownBlock = some k

/-- A disk stands where its blocks stand. -/
theorem DiskAt.kept {w w' : World} {bd bu bv : Nat} {pv : Value} {n : Nat} {d : DV} (h : DiskAt w bd bu bv pv n d) (hk : ∀ k, k < w.heap.size → Foot bd bu bv pv k → w'.heap[k]? = w.heap[k]?) : DiskAt w' bd bu bv pv n d := by
  refine ⟨?_, ?_, ?_, ?_, h.ne, h.lu, h.lv, h.lo, h.hi, h.l0, h.l1, h.fit⟩
  · rw [hk _ (ltOf h.hd) (.inl rfl)]; exact h.hd
  · rw [hk _ (ltOf h.hu) (.inr (.inl rfl))]; exact h.hu
  · rw [hk _ (ltOf h.hv) (.inr (.inr (.inl rfl)))]; exact h.hv
  · refine ⟨h.hp.1, ?_⟩
    rcases h.hp.2 with e | ⟨g, cap, cur, e, hb, hg, r⟩
    · exact .inl e
    · refine .inr ⟨g, cap, cur, e, hb, ?_, r⟩
      rw [hk g (ltOf hg) (.inr (.inr (.inr (by rw [e]; rfl))))]; exact hg

theorem DiskAt.upd {S : Nat → Prop} {w w' : World} {bd bu bv : Nat} {pv : Value} {n : Nat} {d : DV} (h : DiskAt w bd bu bv pv n d) (hU : Upd S w w') (hS : ∀ k, Foot bd bu bv pv k → ¬ S k) : DiskAt w' bd bu bv pv n d :=
  h.kept fun k hk hf => hU.block k hk (hS k hf)

/-! ### Small functions -/
section
variable {w : World} {bd bu bv : Nat} {pv : Value} {n : Nat} {d : DV}

set_option maxHeartbeats 400000 in
theorem check_ok (h : DiskAt w bd bu bv pv n d) (ho : d.off = false) :
    Calls Tryz.prog 38 #[.pointer (some ⟨bd, 0, none⟩)] w fun e w' => e = .returned (.int .i64 0) ∧ w = w' := by
  have c0 : w.cell? ⟨bd, 0, none⟩ = some (.bool false) := by rw [cellOf h.hd, ho]; rfl
  clear h ho
  go_enter Tryz.func38, Tryz.ntmps38
  go_wp2
  go_ret
  exact ⟨rfl, rfl⟩

set_option maxHeartbeats 400000 in
theorem check_off (h : DiskAt w bd bu bv pv n d) (ho : d.off = true) :
    Calls Tryz.prog 38 #[.pointer (some ⟨bd, 0, none⟩)] w fun e w' => e = .returned (.int .i64 251) ∧ w = w' := by
  have c0 : w.cell? ⟨bd, 0, none⟩ = some (.bool true) := by rw [cellOf h.hd, ho]; rfl
  clear h ho
  go_enter Tryz.func38, Tryz.ntmps38
  go_wp2
  go_ret
  exact ⟨rfl, rfl⟩

set_option maxHeartbeats 400000 in
theorem check_nil (w : World) :
    Calls Tryz.prog 38 #[.pointer none] w fun e w' => e = .returned (.int .i64 1) ∧ w = w' := by
  go_enter Tryz.func38, Tryz.ntmps38
  go_wp2
  go_ret
  exact ⟨rfl, rfl⟩

set_option maxHeartbeats 400000 in
theorem inside_yes (h : DiskAt w bd bu bv pv n d) (x m : Int) (h0 : 0 ≤ x) (h1 : 0 ≤ m) (h2 : x ≤ n) (h3 : m ≤ n - x) :
    Calls Tryz.prog 39 #[.pointer (some ⟨bd, 0, none⟩), .int .i64 x, .int .i64 m] w fun e w' => e = .returned (.bool true) ∧ w = w' := by
  have c2 : w.cell? ⟨bd, 2, none⟩ = some (.slice (some ⟨bu, 0, none⟩) n n) := by rw [cellOf h.hd]; rfl
  have hn : (n : Int) ≤ 9223372036854775807 := by have := h.hi; omega
  clear h
  go_enter Tryz.func39, Tryz.ntmps39
  go_wp2
  go_ret
  refine ⟨?_, rfl⟩
  simp

set_option maxHeartbeats 400000 in
theorem inside_no (h : DiskAt w bd bu bv pv n d) (x m : Int) (hx : -9223372036854775808 ≤ x) (hm : -9223372036854775808 ≤ m) (h0 : ¬ (0 ≤ x ∧ 0 ≤ m ∧ x ≤ n ∧ m ≤ n - x)) :
    Calls Tryz.prog 39 #[.pointer (some ⟨bd, 0, none⟩), .int .i64 x, .int .i64 m] w fun e w' => e = .returned (.bool false) ∧ w = w' := by
  have c2 : w.cell? ⟨bd, 2, none⟩ = some (.slice (some ⟨bu, 0, none⟩) n n) := by rw [cellOf h.hd]; rfl
  have hn : (n : Int) ≤ 9223372036854775807 := by have := h.hi; omega
  clear h
  by_cases a0 : 0 ≤ x
  · by_cases a1 : 0 ≤ m
    · by_cases a2 : x ≤ n
      · have a3 : ¬ m ≤ n - x := by omega
        clear h0
        go_enter Tryz.func39, Tryz.ntmps39
        go_wp2
        go_ret
        refine ⟨?_, rfl⟩
        simp
      · have b2 : decide (x ≤ (n : Int)) = false := by simp; omega
        clear h0
        go_enter Tryz.func39, Tryz.ntmps39
        go_wp2
        go_ret
        exact ⟨rfl, rfl⟩
    · have b1 : decide (0 ≤ m) = false := by simp; omega
      clear h0
      go_enter Tryz.func39, Tryz.ntmps39
      go_wp2
      go_ret
      exact ⟨rfl, rfl⟩
  · have b0 : decide (0 ≤ x) = false := by simp; omega
    clear h0
    go_enter Tryz.func39, Tryz.ntmps39
    go_wp2
    go_ret
    exact ⟨rfl, rfl⟩

set_option maxHeartbeats 400000 in
theorem Pending_any (h : DiskAt w bd bu bv pv n d) :
    Calls Tryz.prog 22 #[.pointer (some ⟨bd, 0, none⟩)] w fun e w' => e = .returned (.int .i64 d.pe.length) ∧ w = w' := by
  obtain ⟨A, c, hv⟩ : ∃ A c, pv = .slice A d.pe.length c := by
    rcases h.hp.2 with ⟨e, e0⟩ | ⟨g, cap, cur, e, _⟩
    · exact ⟨none, 0, by rw [e, e0]⟩
    · exact ⟨_, cap, e⟩
  have c4 : w.cell? ⟨bd, 4, none⟩ = some (.slice A d.pe.length c) := by rw [cellOf h.hd, ← hv]; rfl
  clear h hv
  go_enter Tryz.func22, Tryz.ntmps22
  go_wp2
  go_ret
  exact ⟨rfl, rfl⟩

set_option maxHeartbeats 400000 in
theorem Pending_nil (w : World) :
    Calls Tryz.prog 22 #[.pointer none] w fun e w' => e = .returned (.int .i64 0) ∧ w = w' := by
  go_enter Tryz.func22, Tryz.ntmps22
  go_wp2
  go_ret
  exact ⟨rfl, rfl⟩

set_option maxHeartbeats 400000 in
theorem Size_any (h : DiskAt w bd bu bv pv n d) :
    Calls Tryz.prog 43 #[.pointer (some ⟨bd, 0, none⟩)] w fun e w' => e = .returned (.int .i64 n) ∧ w = w' := by
  have c2 : w.cell? ⟨bd, 2, none⟩ = some (.slice (some ⟨bu, 0, none⟩) n n) := by rw [cellOf h.hd]; rfl
  clear h
  go_enter Tryz.func43, Tryz.ntmps43
  go_wp2
  go_ret
  exact ⟨rfl, rfl⟩

set_option maxHeartbeats 400000 in
theorem Size_nil (w : World) :
    Calls Tryz.prog 43 #[.pointer none] w fun e w' => e = .returned (.int .i64 0) ∧ w = w' := by
  go_enter Tryz.func43, Tryz.ntmps43
  go_wp2
  go_ret
  exact ⟨rfl, rfl⟩
end
end Go.Proofs.YthlmgookaljgnaaGreatDoor
namespace Go.Proofs.YthlmgookaljgnaaGreatDoor
open Go.RowKit

theorem Tryz.sz5 : (Tryz.prog.info? 5).map (·.size) = some 1 := by kernel_rfl

/-- the world with the box of a write -/
theorem grown_upd {S : Nat → Prop} {w w' : World} {g : Nat} (h : w.grownBy w' (some g)) (hS : S g) : Upd S w w' :=
  (Upd.refl S w).grown h (fun k e => .inl (by injection e with e; subst e; exact hS))

set_option maxHeartbeats 400000 in
theorem onto_any (g p : Nat) (s : ByteArray) (l : List UInt8) (w : World) (hr : w.heap[g]? = some (.cells (bytesV l).toArray 5 (0, 0)))
    (n : Nat) (hn : l.length = n) (hs : p + s.size ≤ n) (hl : n ≤ 4194304) :
    Calls Tryz.prog 40 #[.agg #[.int .i64 (p : Int), .string s], .slice (some ⟨g, 0, none⟩) n n] w fun e w' =>
      e = .returned (.tuple #[]) ∧ w'.heap[g]? = some (.cells (bytesV (splice l p s.data.toList)).toArray 5 (0, 0)) ∧ Upd (· = g) w w' := by
  have hg := ltOf hr
  have HR := Lib.hid hr
  have HL := Lib.hid hn
  have q0 : (n : Int) ≤ 9223372036854775807 := by omega
  have q1 : p ≤ n := by omega
  have q3 : s.size ≤ n - p := by omega
  clear hr hn hl
  have U0 : ∀ o : Obj, Upd (· = g) w (w.alloc o).drew := fun o => ((Upd.refl _ w).alloc o).drew
  have UH := Lib.hid U0
  clear U0
  by_cases q2 : n = p
  · go_enter Tryz.func40, Tryz.ntmps40
    go_wp2
    go_region_law ((refine step_copy_str rfl (.tmp 7) (.tmp 9) 39 9 rfl 5 Tryz.underlying39 Tryz.sz5 _ _ _ (by rfl) s (by rfl) g p l 5 (by rw [show ∀ w : World, w.drew.heap = w.heap from fun _ => rfl, allocOld hg]; exact HR.out) (fun h => by first | rfl | omega) (by omega) (by rw [HL.out]; omega) ?_; intro w' h1 h2))
    all_goals (go_wp2; go_end0; exact ⟨rfl, h1.out, (UH.out _).grown h2.out (fun k e => .inl (by injection e with e; exact e.symm))⟩)
  · go_enter Tryz.func40, Tryz.ntmps40
    go_wp2
    go_region_law ((refine step_copy_str rfl (.tmp 7) (.tmp 9) 39 9 rfl 5 Tryz.underlying39 Tryz.sz5 _ _ _ (by rfl) s (by rfl) g p l 5 (by rw [show ∀ w : World, w.drew.heap = w.heap from fun _ => rfl, allocOld hg]; exact HR.out) (fun h => by first | rfl | omega) (by omega) (by rw [HL.out]; omega) ?_; intro w' h1 h2))
    all_goals (go_wp2; go_end0; exact ⟨rfl, h1.out, (UH.out _).grown h2.out (fun k e => .inl (by injection e with e; exact e.symm))⟩)

/-- the power and the cut behind a write -/
def usedOff (off : Bool) (left : Int) : Bool := if left = 0 then off else left - 1 == 0
def usedLeft (left : Int) : Int := if left = 0 then 0 else left - 1

set_option maxHeartbeats 400000 in
theorem used_any (bd : Nat) (off : Bool) (left : Int) (x y z : Value) (t : TypeId) (w : World) (hd : w.heap[bd]? = some (.cells #[.bool off, .int .i64 left, x, y, z] t (0, 0)))
    (h0 : 0 ≤ left) (h1 : left ≤ 9223372036854775807) :
    Calls Tryz.prog 41 #[.pointer (some ⟨bd, 0, none⟩)] w fun e w' =>
      e = .returned (.tuple #[]) ∧ w'.heap[bd]? = some (.cells #[.bool (usedOff off left), .int .i64 (usedLeft left), x, y, z] t (0, 0)) ∧ Upd (· = bd) w w' := by
  have c0 : w.cell? ⟨bd, 0, none⟩ = some (.bool off) := cellOf hd 0
  have c1 : w.cell? ⟨bd, 1, none⟩ = some (.int .i64 left) := cellOf hd 1
  have f0 : w.frozen? ⟨bd, 0, none⟩ = false := frozenOf hd 0
  have f1 : w.frozen? ⟨bd, 1, none⟩ = false := frozenOf hd 1
  have HD := Lib.hid hd
  clear hd
  by_cases h : left = 0
  · subst h
    go_enter Tryz.func41, Tryz.ntmps41
    go_wp2
    refine bodyPost_ret (results_none rfl _ _ _) rfl ?_
    exact ⟨rfl, HD.out, Upd.refl _ _⟩
  · have hb : (left == 0) = false := by simpa using h
    go_enter Tryz.func41, Tryz.ntmps41
    go_wp2
    go_end0
    refine ⟨rfl, ?_, ((Upd.refl (· = bd) w).setCell _ _ (.inl rfl)).setCell _ _ (.inl rfl)⟩
    rw [setOf_ (setOf_ HD.out 1 _) 0 _]
    simp [usedOff, usedLeft, h]

theorem Tryz.infoWrite : (Tryz.prog.info? 86).map (fun i => (i.zero, i.size, i.bytes)) = some (some (.agg #[.int .i64 0, .string ByteArray.empty]), 2, 24) := by kernel_rfl

/-- Between the two halves of a write: the write is pending, and not yet visible. -/
def WMid (w : World) (bd bu bv : Nat) (pv : Value) (n : Nat) (d : DV) (p : Nat) (s : ByteArray) (wx : World) : Prop :=
  ∃ gg cap, wx.ownsRow 0 86 2 (.slice (some ⟨gg, 0, none⟩) (d.pe.length + 1) cap) (d.pe.length + 1) (pendV d.pe ++ [.int .i64 (p : Int), .string s]) ∧
    wx.heap[bd]? = some (.cells #[.bool d.off, .int .i64 d.left, .slice (some ⟨bu, 0, none⟩) n n, .slice (some ⟨bv, 0, none⟩) n n, .slice (some ⟨gg, 0, none⟩) (d.pe.length + 1) cap] 91 (0, 0)) ∧
    wx.heap[w.heap.size]? = some (.cells #[.int .i64 (p : Int), .string s] 86 (0, 0)) ∧
    Upd (fun k => k = bd ∨ pv.ownBlock = some k) w wx ∧ (pv.ownBlock = some gg ∨ w.heap.size ≤ gg)

theorem wmid_of {w w1 : World} {bd bu bv : Nat} {pv : Value} {n : Nat} {d : DV} {p : Nat} {s : ByteArray} {gg cap : Nat} (h : DiskAt w bd bu bv pv n d) (hne : pv.ownBlock ≠ some bd) (hnw : pv.ownBlock ≠ some w.heap.size)
    (hown : w1.ownsRow 0 86 2 (.slice (some ⟨gg, 0, none⟩) (d.pe.length + 1) cap) (d.pe.length + 1) (pendV d.pe ++ [.int .i64 (p : Int), .string s]))
    (hgrow : ((w.alloc (.cells #[.int .i64 (p : Int), .string s] 86)).alloc (.cells #[.int .i64 (p : Int), .string s] 86)).drew.grownBy w1 pv.ownBlock)
    (hat : pv.ownBlock = some gg ∨ gg = w.heap.size + 2) :
    WMid w bd bu bv pv n d p s (w1.setCell ⟨bd, 4, none⟩ (.slice (some ⟨gg, 0, none⟩) (d.pe.length + 1) cap)) := by
  have hlt := ltOf h.hd
  have hb : w1.heap[bd]? = w.heap[bd]? := by
    rw [hgrow.block bd (by simp; omega) (fun e => hne e.symm), drewHeap, allocOld (by simp; omega), allocOld hlt]
  have hx : w1.heap[w.heap.size]? = some (.cells #[.int .i64 (p : Int), .string s] 86 (0, 0)) := by
    rw [hgrow.block w.heap.size (by simp; omega) (fun e => hnw e.symm), drewHeap, allocOld (by simp), allocAt _ rfl]
  have hg : gg ≠ bd := by
    rintro rfl
    rcases hat with e | e
    · exact hne e
    · omega
  refine ⟨gg, cap, ?_, ?_, ?_, ?_, ?_⟩
  · exact hown.kept (Lib.grownBy_setCell w1 bd 4 _) (.inr (by simpa [Value.ownBlock] using hg))
  · rw [setOf_ (hb.trans h.hd) 4 _]; rfl
  · rw [setNe (by omega)]; exact hx
  · exact ((((Upd.refl _ w).alloc _).alloc _).drew.grown hgrow (fun k e => .inl (.inr e))).setCell _ _ (.inl (.inl rfl))
  · rcases hat with e | e
    · exact .inl e
    · exact .inr (by omega)

theorem wmid_end {w wx w2 w3 : World} {bd bu bv : Nat} {pv : Value} {n : Nat} {d : DV} {p : Nat} {s : ByteArray} {gg cap : Nat} (h : DiskAt w bd bu bv pv n d) (hs : p + s.size ≤ n) (hne : pv.ownBlock ≠ some bd)
    (hown : wx.ownsRow 0 86 2 (.slice (some ⟨gg, 0, none⟩) (d.pe.length + 1) cap) (d.pe.length + 1) (pendV d.pe ++ [.int .i64 (p : Int), .string s]))
    (hU : Upd (fun k => k = bd ∨ pv.ownBlock = some k) w wx) (hat : pv.ownBlock = some gg ∨ w.heap.size ≤ gg)
    (h2 : w2.heap[bv]? = some (.cells (bytesV (splice d.vi p s.data.toList)).toArray 5 (0, 0))) (hU2 : Upd (· = bv) wx w2)
    (h3 : w3.heap[bd]? = some (.cells #[.bool (usedOff false d.left), .int .i64 (usedLeft d.left), .slice (some ⟨bu, 0, none⟩) n n, .slice (some ⟨bv, 0, none⟩) n n, .slice (some ⟨gg, 0, none⟩) (d.pe.length + 1) cap] 91 (0, 0)))
    (hU3 : Upd (· = bd) w2 w3) :
    ∃ pv', DiskAt w3 bd bu bv pv' n ⟨usedOff false d.left, usedLeft d.left, d.du, splice d.vi p s.data.toList, d.pe ++ [(p, s)]⟩ ∧
        Upd (Foot bd bu bv pv) w w3 ∧ (pv'.ownBlock = pv.ownBlock ∨ ∃ g, pv'.ownBlock = some g ∧ w.heap.size ≤ g) := by
  have hvd : bv ≠ bd := ty_ne h.hv h.hd (by decide)
  have hud : bu ≠ bd := ty_ne h.hu h.hd (by decide)
  have hlv := ltOf h.hv
  have hlu := ltOf h.hu
  have hpu : pv.ownBlock ≠ some bu := by
    intro e
    rcases h.hp.2 with ⟨e1, _⟩ | ⟨g, cap, cur, e1, _, hg, _⟩
    · rw [e1] at e; cases e
    · rw [e1] at e; injection e with e; subst e; exact ty_ne hg h.hu (by decide) rfl
  have hgrow' : ∀ g cap' cur, wx.heap[g]? = some (.cells cur 86 cap') → g ≠ bd ∧ g ≠ bv → w3.heap[g]? = wx.heap[g]? := fun g cap' cur hg ⟨h1, h2⟩ => by
    rw [hU3.block g (Nat.lt_of_lt_of_le (ltOf hg) hU2.size) h1, hU2.block g (ltOf hg) h2]
  refine ⟨_, ⟨h3, ?_, ?_, ?_, h.ne, h.lu, ?_, h.lo, h.hi, ?_, ?_, ?_⟩, ?_, ?_⟩
  · rw [hU3.block bu (Nat.lt_of_lt_of_le hlu (Nat.le_trans hU.size hU2.size)) hud, hU2.block bu (Nat.lt_of_lt_of_le hlu hU.size) h.ne, hU.block bu hlu (fun e => by rcases e with e | e; exact hud e; exact hpu e)]
    exact h.hu
  · rw [hU3.block bv (Nat.lt_of_lt_of_le hlv (Nat.le_trans hU.size hU2.size)) hvd]; exact h2
  · rw [pendV_append, List.length_append]
    refine ⟨hown.1, ?_⟩
    rcases hown.2 with ⟨e, _⟩ | ⟨g, c, cur, e, hb, hg, r⟩
    · cases e
    · refine .inr ⟨g, c, cur, e, hb, ?_, r⟩
      have hgg : gg = g := by injection e with e; injection e with e; injection e
      subst hgg
      rw [hgrow' gg _ _ hg ⟨?_, ?_⟩]
      · exact hg
      · rintro rfl
        rcases hat with e | e
        · exact hne e
        · have := ltOf h.hd; omega
      · rintro rfl
        rcases hat with e | e
        · rcases h.hp.2 with ⟨e1, _⟩ | ⟨g, cap, cur, e1, _, hg', _⟩
          · rw [e1] at e; cases e
          · rw [e1] at e; injection e with e; subst e; exact ty_ne hg' h.hv (by decide) rfl
        · omega
  · rw [length_splice]
    · exact h.lv
    · rw [← Lib.size_eq, h.lv]; exact hs
  · show 0 ≤ usedLeft d.left
    unfold usedLeft; have := h.l0; split <;> omega
  · show usedLeft d.left ≤ _
    unfold usedLeft; have := h.l1; have := h.l0; split <;> omega
  · intro q hq
    rcases List.mem_append.1 hq with hq | hq
    · exact h.fit q hq
    · obtain rfl := List.mem_singleton.1 hq
      exact hs
  · refine (((hU.mono (T := Foot bd bu bv pv) fun i _ e => ?_).trans hU2 fun i _ e => ?_).trans hU3 fun i _ e => ?_)
    · rcases e with e | e
      · exact .inl e
      · exact .inr (.inr (.inr e))
    · exact .inr (.inr (.inl e))
    · exact .inl e
  · rcases hat with e | e
    · exact .inl e.symm
    · exact .inr ⟨gg, rfl, e⟩

set_option maxRecDepth 100000 in
set_option maxHeartbeats 1600000 in
theorem Write_ok {w : World} {bd bu bv : Nat} {pv : Value} {n : Nat} {d : DV} (h : DiskAt w bd bu bv pv n d) (ho : d.off = false) (p : Nat) (s : ByteArray) (hs : p + s.size ≤ n) (hl : d.pe.length ≤ 1000000) :
    Calls Tryz.prog 10 #[.pointer (some ⟨bd, 0, none⟩), .int .i64 (p : Int), .string s] w fun e w' =>
      e = .returned (.int .i64 0) ∧ ∃ pv', DiskAt w' bd bu bv pv' n ⟨usedOff false d.left, usedLeft d.left, d.du, splice d.vi p s.data.toList, d.pe ++ [(p, s)]⟩ ∧
        Upd (Foot bd bu bv pv) w w' ∧ (pv'.ownBlock = pv.ownBlock ∨ ∃ g, pv'.ownBlock = some g ∧ w.heap.size ≤ g) := by
  obtain ⟨i0, hi0, hz0, hz1, hz2⟩ := info_parts Tryz.infoWrite
  have hlt := ltOf h.hd
  have c4 : w.cell? ⟨bd, 4, none⟩ = some pv := cellOf h.hd 4
  have c3 : w.cell? ⟨bd, 3, none⟩ = some (.slice (some ⟨bv, 0, none⟩) n n) := cellOf h.hd 3
  have f4 : w.frozen? ⟨bd, 4, none⟩ = false := frozenOf h.hd 4
  have hne : pv.ownBlock ≠ some bd := by
    intro e
    rcases h.hp.2 with ⟨e1, _⟩ | ⟨g, cap, cur, e1, _, hg, _⟩
    · rw [e1] at e; cases e
    · rw [e1] at e; injection e with e; subst e; exact absurd (hg.symm.trans h.hd) (by simp)
  have hnw : pv.ownBlock ≠ some w.heap.size := by
    intro e
    have := h.hp.lt _ e
    omega
  have Hown := Lib.hid h.hp
  have H := Lib.hid h
  have HO := Lib.hid ho
  have hlen : ((s.size : Nat) : Int) ≤ 9223372036854775807 := by have := h.hi; omega
  have hno : (p : Int) ≤ n := by omega
  have hns : (s.size : Int) ≤ n - p := by omega
  clear h ho
  go_enter Tryz.func10, Tryz.ntmps10
  go_wp2_with fail
  refine (check_ok H.out HO.out).mono ?_
  rintro e w' ⟨rfl, rfl⟩
  go_wp2_with fail
  refine (inside_yes H.out _ _ (by omega) (by omega) hno hns).mono ?_
  rintro e w' ⟨rfl, rfl⟩
  go_wp2_with fail
  go_cut [] (fun wx => WMid w bd bu bv pv n d p s wx)
  case first =>
    go_region_law (
      (refine step_append_lies _ (by rfl) _ _ _ (by rfl) 0 86 i0 _ 2 24 Tryz.underlying87 hi0 hz0 hz1 hz2 rfl (by omega) pv d.pe.length (pendV d.pe) (by rfl) (((Hown.out.alloc _).alloc _).drew) ⟨w.heap.size + 1, 0, none⟩ 1 1 [.int .i64 p, .string s] (by rfl) (by rfl) (World.news_of_block (cs := #[.int .i64 p, .string s]) (t := 86) (fr := (0, 0)) (by rw [drewHeap]; exact allocAt _ (by simp))) (by simp [Value.oneCell']) (by omega) (by simp only [maxLen]; omega) (by omega) (by simp) (w.heap.size + 2) (by simp) ?_
       intro gg cap w1 hown1 hgrow hat hlt1
       have ff1 : w1.frozen? ⟨bd, 4, none⟩ = false := by
         rw [hgrow.frozen_far ⟨bd, 4, none⟩ (by simp; omega) (Ne.symm hne), World.frozen?_drew, World.frozen?_alloc_past _ _ _ (by simp; omega), World.frozen?_alloc_past _ _ _ hlt]; exact f4
       have cc1 : w1.cell? ⟨bd, 4, none⟩ = some pv := by
         rw [hgrow.cell_far ⟨bd, 4, none⟩ (by simp; omega) (Ne.symm hne), World.cell?_drew, World.cell?_alloc_past _ _ _ (by simp; omega), World.cell?_alloc_past _ _ _ hlt]; exact c4))
    all_goals (go_wp2_with fail; go_meet; exact wmid_of H.out hne hnw hown1 hgrow hat)
  case rest =>
    obtain ⟨gg, cap, hown, hd, hx, hU, hat⟩ := hcut
    have hvd : bv ≠ bd := ty_ne H.out.hv H.out.hd (by decide)
    have hlv := ltOf H.out.hv
    have hpv : pv.ownBlock ≠ some bv := by
      intro e
      rcases H.out.hp.2 with ⟨e1, _⟩ | ⟨g, cap, cur, e1, _, hg, _⟩
      · rw [e1] at e; cases e
      · rw [e1] at e; injection e with e; subst e; exact ty_ne hg H.out.hv (by decide) rfl
    have hv := hU.block bv hlv (fun e => by rcases e with e | e; exact hvd e; exact hpv e)
    rw [H.out.hv] at hv
    have b0 : wc.cell? ⟨w.heap.size, 0, none⟩ = some (.int .i64 (p : Int)) := cellOf hx 0
    have b1 : wc.cell? ⟨w.heap.size, 1, none⟩ = some (.string s) := cellOf hx 1
    have b3 : wc.cell? ⟨bd, 3, none⟩ = some (.slice (some ⟨bv, 0, none⟩) n n) := cellOf hd 3
    have HV := Lib.hid hv
    have HD := Lib.hid hd
    have HX := Lib.hid hx
    have hlc := hU.size
    clear hv hd hx c4 c3 f4
    go_wp2_with fail
    go_region_held3 (fun w' => w'.cell? ⟨w.heap.size, 0, none⟩ = some (.int .i64 (p : Int)) ∧ w'.cell? ⟨w.heap.size, 1, none⟩ = some (.string s) ∧ w'.cell? ⟨bd, 3, none⟩ = some (.slice (some ⟨bv, 0, none⟩) n n))
      (first | go_keep | exact ⟨k0, k1, k3⟩)
      (first
        | (go_at_call 40
           refine (onto_any bv p s d.vi _ (by exact HV.out) n H.out.lv hs H.out.hi).mono ?_
           rintro e w2 ⟨rfl, h2, hU2⟩
           have k0 : w2.cell? ⟨w.heap.size, 0, none⟩ = some (.int .i64 (p : Int)) := hU2.cell (w := wc.drew) b0 (by simp; omega)
           have k1 : w2.cell? ⟨w.heap.size, 1, none⟩ = some (.string s) := hU2.cell (w := wc.drew) b1 (by simp; omega)
           have k3 : w2.cell? ⟨bd, 3, none⟩ = some (.slice (some ⟨bv, 0, none⟩) n n) := hU2.cell (w := wc.drew) b3 (by simp; omega)
           have hd2 := hU2.at (w := wc.drew) HD.out (Ne.symm hvd)
           have HD2 := Lib.hid hd2
           have H2 := Lib.hid h2
           have HU2 := Lib.hid hU2
           clear hd2 h2 hU2))
    go_wp2_with fail
    refine (used_any bd d.off d.left _ _ _ _ _ (by exact HD2.out) H.out.l0 H.out.l1).mono ?_
    rintro e w3 ⟨rfl, h3, hU3⟩
    have HD3 := Lib.hid h3
    have HU3 := Lib.hid hU3
    clear h3 hU3
    go_wp2_with fail
    go_ret
    refine ⟨rfl, ?_⟩
    have hd3 := HD3.out
    rw [HO.out] at hd3
    exact wmid_end H.out hs hne hown hU hat H2.out HU2.out.of_drew hd3 HU3.out

end Go.Proofs.YthlmgookaljgnaaGreatDoor
namespace Go.Proofs.YthlmgookaljgnaaGreatDoor
open Go.RowKit
set_option linter.unusedVariables false

theorem Tryz.zeroWrite : ∀ w, (zeroValue 86).run Tryz.prog w = .ok (.agg #[.int .i64 0, .string ByteArray.empty]) w := fun _ => by kernel_rfl

theorem own_neK {w : World} {t base size n : Nat} {v : Value} {xs : List Value} (h : w.ownsRow base t size v n xs) {b : Nat} {cs : Array Value} {u : TypeId} {fr : Nat × Nat} (hb : w.heap[b]? = some (.cells cs u fr)) (hn : t ≠ u) : v.ownBlock ≠ some b := by
  intro e
  rcases h.2 with ⟨e1, _⟩ | ⟨g, cap, cur, e1, _, hg, _⟩
  · rw [e1] at e; cases e
  · rw [e1] at e; injection e with e; subst e; exact ty_ne hg hb hn rfl

theorem settle_end {w w1 w2 : World} {bd g : Nat} {off : Bool} {left : Int} {x y pv pv' : Value} {m : List UInt8} {k : Nat} {xs' : List Value}
    (hd : w.heap[bd]? = some (.cells #[.bool off, .int .i64 left, x, y, pv] 91 (0, 0))) (hl : g < w.heap.size) (hgd : g ≠ bd) (hpd : pv.ownBlock ≠ some bd) (hpg : pv.ownBlock ≠ some g)
    (h1 : w1.heap[g]? = some (.cells (bytesV m).toArray 5 (0, 0))) (hU : w.grownBy w1 (some g)) (h2 : w2.ownsRow 0 86 2 pv k xs') (hU2 : w1.grownBy w2 pv.ownBlock)
    (hpv : (pv = .slice none 0 0 ∧ pv' = .slice none 0 0) ∨ ∃ gg cap, pv = .slice (some ⟨gg, 0, none⟩) k cap ∧ pv' = .slice (some ⟨gg, 0, none⟩) 0 cap) :
    ∃ pv'', (w2.setCell ⟨bd, 4, none⟩ pv').heap[bd]? = some (.cells #[.bool off, .int .i64 left, x, y, pv''] 91 (0, 0)) ∧ (w2.setCell ⟨bd, 4, none⟩ pv').heap[g]? = some (.cells (bytesV m).toArray 5 (0, 0)) ∧
      (w2.setCell ⟨bd, 4, none⟩ pv').ownsRow 0 86 2 pv'' 0 [] ∧ pv''.ownBlock = pv.ownBlock ∧ Upd (fun i => i = bd ∨ i = g ∨ pv.ownBlock = some i) w (w2.setCell ⟨bd, 4, none⟩ pv') := by
  have hlb := ltOf hd
  have hd2 : w2.heap[bd]? = some (.cells #[.bool off, .int .i64 left, x, y, pv] 91 (0, 0)) := by
    rw [hU2.block bd (Nat.lt_of_lt_of_le hlb hU.size) (fun e => hpd e.symm), hU.block bd hlb (fun e => hgd (by injection e with e; exact e.symm))]; exact hd
  refine ⟨pv', ?_, ?_, ?_, ?_, ?_⟩
  · rw [setOf_ hd2 4 _]; rfl
  · rw [setNe hgd, hU2.block g (Nat.lt_of_lt_of_le hl hU.size) (fun e => hpg e.symm)]; exact h1
  · have hk : (w2.setCell ⟨bd, 4, none⟩ pv').ownsRow 0 86 2 pv k xs' := h2.kept (Lib.grownBy_setCell w2 bd 4 _) (.inr hpd)
    rcases hpv with ⟨e1, e2⟩ | ⟨gg, cap, e1, e2⟩
    · rw [e2]; exact World.ownsRow_nil _ _ _ _
    · refine ⟨rfl, .inr ?_⟩
      rcases hk.2 with ⟨e, _⟩ | ⟨g', c', cur, e, hb, hg', hn, hc, hs, _⟩
      · rw [e1] at e; cases e
      · rw [e1] at e
        injection e with e3 e4 e5
        injection e3 with e3
        injection e3 with e3
        subst e3 e5
        exact ⟨gg, cap, cur, e2, Nat.zero_le _, hg', Nat.zero_le _, hc, hs, by simp⟩
  · rcases hpv with ⟨e1, e2⟩ | ⟨gg, cap, e1, e2⟩ <;> rw [e1, e2] <;> rfl
  · refine (((Upd.refl _ w).grown hU fun k e => ?_).grown hU2 fun k e => .inl (.inr (.inr e))).setCell _ _ (.inl (.inl rfl))
    injection e with e
    exact .inl (.inr (.inl e.symm))

set_option maxHeartbeats 800000 in
set_option maxRecDepth 100000 in
theorem settle_any {w : World} {bd g h n : Nat} {off : Bool} {left : Int} {x y pv : Value} {l m : List UInt8} {k : Nat} {xs : List Value}
    (hd : w.heap[bd]? = some (.cells #[.bool off, .int .i64 left, x, y, pv] 91 (0, 0))) (hg : w.heap[g]? = some (.cells (bytesV l).toArray 5 (0, 0)))
    (hh : w.heap[h]? = some (.cells (bytesV m).toArray 5 (0, 0))) (hl : l.length = n) (hm : m.length = n) (hp : w.ownsRow 0 86 2 pv k xs) :
    Calls Tryz.prog 57 #[.pointer (some ⟨bd, 0, none⟩), .slice (some ⟨h, 0, none⟩) n n, .slice (some ⟨g, 0, none⟩) n n] w fun e w' => e = .returned (.tuple #[]) ∧
      ∃ pv', w'.heap[bd]? = some (.cells #[.bool off, .int .i64 left, x, y, pv'] 91 (0, 0)) ∧ w'.heap[g]? = some (.cells (bytesV m).toArray 5 (0, 0)) ∧
        w'.ownsRow 0 86 2 pv' 0 [] ∧ pv'.ownBlock = pv.ownBlock ∧ Upd (fun i => i = bd ∨ i = g ∨ pv.ownBlock = some i) w w' := by
  have hgd : g ≠ bd := ty_ne hg hd (by decide)
  have hpd := own_neK hp hd (by decide)
  have hpg := own_neK hp hg (by decide)
  have hlg := ltOf hg
  have hlb := ltOf hd
  have HD := Lib.hid hd
  have HG := Lib.hid hg
  have HH := Lib.hid hh
  have HP := Lib.hid hp
  have HL := Lib.hid hl
  have HM := Lib.hid hm
  clear hd hg hh hp hl hm
  rcases HP.out.2 with ⟨e, e'⟩ | ⟨gg, cap, cur, e, _, _, hn, hcap, _⟩
  · subst e
    go_enter Tryz.func57, Tryz.ntmps57
    go_wp2_with (first
      | (with_reducible refine wpList_copy_rows rfl (.tmp 6) (.tmp 7) 39 39 rfl 5 Tryz.underlying39 Tryz.sz5 n g h n n rfl rfl l m 5 5 HG.out HH.out HL.out HM.out ?_
         intro w1 h1 hU
         have hd1 : w1.heap[bd]? = some (.cells #[.bool off, .int .i64 left, x, y, .slice none 0 0] 91 (0, 0)) := by
           rw [hU.out.block bd hlb (fun e => hgd (by injection e with e; exact e.symm))]; exact HD.out
         have hp1 : w1.ownsRow 0 86 2 (.slice none 0 0) k xs := HP.out.kept hU.out (.inr hpg)
         have c4 : w1.cell? ⟨bd, 4, none⟩ = some (.slice none 0 0) := cellOf hd1 4
         have HD1 := Lib.hid hd1
         have HP1 := Lib.hid hp1
         clear hd1 hp1)
      | (with_reducible refine wpList_clear_own rfl (.tmp 12) 87 rfl 0 86 2 Tryz.underlying87 _ Tryz.zeroWrite rfl (by simp [Value.cells, Value.oneCell']) (.slice none 0 0) k xs rfl (by assumption : Hid (World.ownsRow _ 0 86 2 (.slice none 0 0) k xs)).out ?_
         intro w2 xs' h2 hU2
         have hd2 : w2.heap[bd]? = some (.cells #[.bool off, .int .i64 left, x, y, .slice none 0 0] 91 (0, 0)) := by
           rw [hU2.out.block bd (ltOf HD1.out) (fun e => hpd e.symm)]; exact HD1.out
         have d4 : w2.cell? ⟨bd, 4, none⟩ = some (.slice none 0 0) := cellOf hd2 4
         have f4 : w2.frozen? ⟨bd, 4, none⟩ = false := frozenOf hd2 4
         clear hd2))
    go_end0
    exact ⟨rfl, settle_end HD.out hlg hgd hpd hpg h1.out hU.out h2.out hU2.out (.inl ⟨rfl, rfl⟩)⟩
  · subst e
    have hcap' : cap ≤ 9223372036854775807 := hcap
    clear hcap
    go_enter Tryz.func57, Tryz.ntmps57
    go_wp2_with (first
      | (with_reducible refine wpList_copy_rows rfl (.tmp 6) (.tmp 7) 39 39 rfl 5 Tryz.underlying39 Tryz.sz5 n g h n n rfl rfl l m 5 5 HG.out HH.out HL.out HM.out ?_
         intro w1 h1 hU
         have hd1 : w1.heap[bd]? = some (.cells #[.bool off, .int .i64 left, x, y, .slice (some ⟨gg, 0, none⟩) k cap] 91 (0, 0)) := by
           rw [hU.out.block bd hlb (fun e => hgd (by injection e with e; exact e.symm))]; exact HD.out
         have hp1 : w1.ownsRow 0 86 2 (.slice (some ⟨gg, 0, none⟩) k cap) k xs := HP.out.kept hU.out (.inr hpg)
         have c4 : w1.cell? ⟨bd, 4, none⟩ = some (.slice (some ⟨gg, 0, none⟩) k cap) := cellOf hd1 4
         have HD1 := Lib.hid hd1
         have HP1 := Lib.hid hp1
         clear hd1 hp1)
      | (with_reducible refine wpList_clear_own rfl (.tmp 12) 87 rfl 0 86 2 Tryz.underlying87 _ Tryz.zeroWrite rfl (by simp [Value.cells, Value.oneCell']) (.slice (some ⟨gg, 0, none⟩) k cap) k xs rfl (by assumption : Hid (World.ownsRow _ 0 86 2 (.slice (some ⟨gg, 0, none⟩) k cap) k xs)).out ?_
         intro w2 xs' h2 hU2
         have hd2 : w2.heap[bd]? = some (.cells #[.bool off, .int .i64 left, x, y, .slice (some ⟨gg, 0, none⟩) k cap] 91 (0, 0)) := by
           rw [hU2.out.block bd (ltOf HD1.out) (fun e => hpd e.symm)]; exact HD1.out
         have d4 : w2.cell? ⟨bd, 4, none⟩ = some (.slice (some ⟨gg, 0, none⟩) k cap) := cellOf hd2 4
         have f4 : w2.frozen? ⟨bd, 4, none⟩ = false := frozenOf hd2 4
         clear hd2))
    go_end0
    exact ⟨rfl, settle_end HD.out hlg hgd hpd hpg h1.out hU.out h2.out hU2.out (.inr ⟨gg, cap, rfl, rfl⟩)⟩

section
variable {w : World} {bd bu bv : Nat} {pv : Value} {n : Nat} {d : DV}

set_option maxHeartbeats 800000 in
theorem Sync_ok (h : DiskAt w bd bu bv pv n d) (ho : d.off = false) :
    Calls Tryz.prog 34 #[.pointer (some ⟨bd, 0, none⟩)] w fun e w' => e = .returned (.int .i64 0) ∧
      ∃ pv', DiskAt w' bd bu bv pv' n ⟨d.off, d.left, d.vi, d.vi, []⟩ ∧ Upd (Foot bd bu bv pv) w w' ∧ pv'.ownBlock = pv.ownBlock := by
  have c2 : w.cell? ⟨bd, 2, none⟩ = some (.slice (some ⟨bu, 0, none⟩) n n) := cellOf h.hd 2
  have c3 : w.cell? ⟨bd, 3, none⟩ = some (.slice (some ⟨bv, 0, none⟩) n n) := cellOf h.hd 3
  have H := Lib.hid h
  have HO := Lib.hid ho
  clear h ho
  go_enter Tryz.func34, Tryz.ntmps34
  go_wp2_with fail
  refine (check_ok H.out HO.out).mono ?_
  rintro e w' ⟨rfl, rfl⟩
  go_wp2_with fail
  go_region_held3 (fun w' => w'.cell? ⟨bd, 2, none⟩ = some (.slice (some ⟨bu, 0, none⟩) n n) ∧ w'.cell? ⟨bd, 3, none⟩ = some (.slice (some ⟨bv, 0, none⟩) n n)) (first | go_keep | exact ⟨k2, k3⟩)
    (first
      | (go_at_call 57
         refine (settle_any (w := w.drew) (bd := bd) (g := bu) (h := bv) (n := n) H.out.hd H.out.hu H.out.hv H.out.lu H.out.lv H.out.hp).mono ?_
         rintro e w2 ⟨rfl, pv', a1, a2, a3, a4, a5⟩
         have k2 : w2.cell? ⟨bd, 2, none⟩ = some (.slice (some ⟨bu, 0, none⟩) n n) := cellOf a1 2
         have k3 : w2.cell? ⟨bd, 3, none⟩ = some (.slice (some ⟨bv, 0, none⟩) n n) := cellOf a1 3
         have A1 := Lib.hid a1
         have A2 := Lib.hid a2
         have A4 := Lib.hid a4
         clear a1 a2 a4))
  go_wp2_with fail
  go_ret
  refine ⟨rfl, pv', ⟨A1.out, A2.out, ?_, a3, H.out.ne, H.out.lv, H.out.lv, H.out.lo, H.out.hi, H.out.l0, H.out.l1, by simp⟩, a5.of_drew.mono ?_, A4.out⟩
  · refine a5.of_drew.at H.out.hv ?_
    rintro (e | e | e)
    · exact ty_ne H.out.hv H.out.hd (by decide) e
    · exact H.out.ne e.symm
    · exact own_neK H.out.hp H.out.hv (by decide) e
  · rintro i _ (e | e | e)
    · exact .inl e
    · exact .inr (.inl e)
    · exact .inr (.inr (.inr e))

set_option maxHeartbeats 400000 in
theorem Sync_off (h : DiskAt w bd bu bv pv n d) (ho : d.off = true) :
    Calls Tryz.prog 34 #[.pointer (some ⟨bd, 0, none⟩)] w fun e w' => e = .returned (.int .i64 251) ∧ w = w' := by
  have H := Lib.hid h
  have HO := Lib.hid ho
  clear h ho
  go_enter Tryz.func34, Tryz.ntmps34
  go_wp2_with fail
  refine (check_off H.out HO.out).mono ?_
  rintro e w' ⟨rfl, rfl⟩
  go_wp2_with fail
  go_ret
  exact ⟨rfl, rfl⟩

set_option maxHeartbeats 400000 in
theorem Sync_nil (w : World) :
    Calls Tryz.prog 34 #[.pointer none] w fun e w' => e = .returned (.int .i64 1) ∧ w = w' := by
  go_enter Tryz.func34, Tryz.ntmps34
  go_wp2_with fail
  refine (check_nil _).mono ?_
  rintro e w' ⟨rfl, rfl⟩
  go_wp2_with fail
  go_ret
  exact ⟨rfl, rfl⟩

set_option maxHeartbeats 400000 in
theorem Read_ok (h : DiskAt w bd bu bv pv n d) (ho : d.off = false) (x m : Nat) (hx : x + m ≤ n) :
    Calls Tryz.prog 44 #[.pointer (some ⟨bd, 0, none⟩), .int .i64 (x : Int), .int .i64 (m : Int)] w fun e w' =>
      e = .returned (.tuple #[.string ⟨((d.vi.drop x).take m).toArray⟩, .int .i64 0]) ∧ w = w' := by
  have c3 : w.cell? ⟨bd, 3, none⟩ = some (.slice (some ⟨bv, 0, none⟩) n n) := cellOf h.hd 3
  have hnn : (n : Int) ≤ 9223372036854775807 := by have := h.hi; omega
  have h1 : (x : Int) ≤ n := by omega
  have h2 : (m : Int) ≤ n - x := by omega
  have h3 : x ≤ n := by omega
  have h4 : m ≤ n - x := by omega
  by_cases q : n = x
  · have hc : ∀ cap, (convert 39 9 (.slice (some ⟨bv, 0, none⟩) m cap)).run Tryz.prog w = .ok (.string ⟨((d.vi.drop x).take m).toArray⟩) w := fun cap => by
      have hm : m = 0 := by omega
      subst hm
      rw [run_conv_row 39 9 5 Tryz.underlying39 Tryz.underlying5 Tryz.underlying9 bv 0 0 cap d.vi _ h.hv (by omega)]
      simp
    have H := Lib.hid h
    have HO := Lib.hid ho
    clear h ho
    go_enter Tryz.func44, Tryz.ntmps44
    go_wp2_with fail
    refine (check_ok H.out HO.out).mono ?_
    rintro e w' ⟨rfl, rfl⟩
    go_wp2_with fail
    refine (inside_yes H.out _ _ (by omega) (by omega) h1 h2).mono ?_
    rintro e w' ⟨rfl, rfl⟩
    go_wp2_with fail
    go_ret2
    exact ⟨rfl, rfl⟩
  · have hc : ∀ cap, (convert 39 9 (.slice (some ⟨bv, x, none⟩) m cap)).run Tryz.prog w = .ok (.string ⟨((d.vi.drop x).take m).toArray⟩) w := fun cap =>
      run_conv_row 39 9 5 Tryz.underlying39 Tryz.underlying5 Tryz.underlying9 bv x m cap d.vi _ h.hv (by rw [h.lv]; exact hx)
    have H := Lib.hid h
    have HO := Lib.hid ho
    clear h ho
    go_enter Tryz.func44, Tryz.ntmps44
    go_wp2_with fail
    refine (check_ok H.out HO.out).mono ?_
    rintro e w' ⟨rfl, rfl⟩
    go_wp2_with fail
    refine (inside_yes H.out _ _ (by omega) (by omega) h1 h2).mono ?_
    rintro e w' ⟨rfl, rfl⟩
    go_wp2_with fail
    go_ret2
    exact ⟨rfl, rfl⟩

set_option maxHeartbeats 400000 in
theorem Read_off (h : DiskAt w bd bu bv pv n d) (ho : d.off = true) (x m : Int) :
    Calls Tryz.prog 44 #[.pointer (some ⟨bd, 0, none⟩), .int .i64 x, .int .i64 m] w fun e w' =>
      e = .returned (.tuple #[.string ⟨#[]⟩, .int .i64 251]) ∧ w = w' := by
  have H := Lib.hid h
  have HO := Lib.hid ho
  clear h ho
  go_enter Tryz.func44, Tryz.ntmps44
  go_wp2_with fail
  refine (check_off H.out HO.out).mono ?_
  rintro e w' ⟨rfl, rfl⟩
  go_wp2_with fail
  go_ret2
  exact ⟨rfl, rfl⟩

set_option maxHeartbeats 400000 in
theorem Read_nil (w : World) (x m : Int) :
    Calls Tryz.prog 44 #[.pointer none, .int .i64 x, .int .i64 m] w fun e w' =>
      e = .returned (.tuple #[.string ⟨#[]⟩, .int .i64 1]) ∧ w = w' := by
  go_enter Tryz.func44, Tryz.ntmps44
  go_wp2_with fail
  refine (check_nil _).mono ?_
  rintro e w' ⟨rfl, rfl⟩
  go_wp2_with fail
  go_ret2
  exact ⟨rfl, rfl⟩

set_option maxHeartbeats 400000 in
theorem Read_out (h : DiskAt w bd bu bv pv n d) (ho : d.off = false) (x m : Int) (hx : -9223372036854775808 ≤ x) (hm : -9223372036854775808 ≤ m) (h0 : ¬ (0 ≤ x ∧ 0 ≤ m ∧ x ≤ n ∧ m ≤ n - x)) :
    Calls Tryz.prog 44 #[.pointer (some ⟨bd, 0, none⟩), .int .i64 x, .int .i64 m] w fun e w' =>
      e = .returned (.tuple #[.string ⟨#[]⟩, .int .i64 250]) ∧ w = w' := by
  have H := Lib.hid h
  have HO := Lib.hid ho
  have H0 := Lib.hid h0
  clear h ho h0
  go_enter Tryz.func44, Tryz.ntmps44
  go_wp2_with fail
  refine (check_ok H.out HO.out).mono ?_
  rintro e w' ⟨rfl, rfl⟩
  go_wp2_with fail
  refine (inside_no H.out _ _ hx hm H0.out).mono ?_
  rintro e w' ⟨rfl, rfl⟩
  go_wp2_with fail
  go_ret2
  exact ⟨rfl, rfl⟩

set_option maxHeartbeats 400000 in
theorem Write_off (h : DiskAt w bd bu bv pv n d) (ho : d.off = true) (x : Int) (s : ByteArray) :
    Calls Tryz.prog 10 #[.pointer (some ⟨bd, 0, none⟩), .int .i64 x, .string s] w fun e w' => e = .returned (.int .i64 251) ∧ w = w' := by
  have H := Lib.hid h
  have HO := Lib.hid ho
  clear h ho
  go_enter Tryz.func10, Tryz.ntmps10
  go_wp2_with fail
  refine (check_off H.out HO.out).mono ?_
  rintro e w' ⟨rfl, rfl⟩
  go_wp2_with fail
  go_ret
  exact ⟨rfl, rfl⟩

set_option maxHeartbeats 400000 in
theorem Write_nil (w : World) (x : Int) (s : ByteArray) :
    Calls Tryz.prog 10 #[.pointer none, .int .i64 x, .string s] w fun e w' => e = .returned (.int .i64 1) ∧ w = w' := by
  go_enter Tryz.func10, Tryz.ntmps10
  go_wp2_with fail
  refine (check_nil _).mono ?_
  rintro e w' ⟨rfl, rfl⟩
  go_wp2_with fail
  go_ret
  exact ⟨rfl, rfl⟩

set_option maxHeartbeats 400000 in
theorem Write_out (h : DiskAt w bd bu bv pv n d) (ho : d.off = false) (x : Int) (s : ByteArray) (hs : s.size ≤ 9223372036854775807) (hx : -9223372036854775808 ≤ x) (h0 : ¬ (0 ≤ x ∧ x + s.size ≤ n)) :
    Calls Tryz.prog 10 #[.pointer (some ⟨bd, 0, none⟩), .int .i64 x, .string s] w fun e w' => e = .returned (.int .i64 250) ∧ w = w' := by
  have H := Lib.hid h
  have HO := Lib.hid ho
  have H0 := Lib.hid h0
  clear h ho h0
  go_enter Tryz.func10, Tryz.ntmps10
  go_wp2_with fail
  refine (check_ok H.out HO.out).mono ?_
  rintro e w' ⟨rfl, rfl⟩
  go_wp2_with fail
  refine (inside_no H.out _ _ hx (by omega) (fun h => H0.out (by omega))).mono ?_
  rintro e w' ⟨rfl, rfl⟩
  go_wp2_with fail
  go_ret
  exact ⟨rfl, rfl⟩

set_option maxHeartbeats 400000 in
theorem Cut_ok (h : DiskAt w bd bu bv pv n d) (ho : d.off = false) (x : Int) (h0 : 0 ≤ x) (h1 : x ≤ 9223372036854775807) :
    Calls Tryz.prog 46 #[.pointer (some ⟨bd, 0, none⟩), .int .i64 x] w fun e w' => e = .returned (.int .i64 0) ∧
      DiskAt w' bd bu bv pv n ⟨x == 0, x, d.du, d.vi, d.pe⟩ ∧ Upd (· = bd) w w' := by
  have c0 : w.cell? ⟨bd, 0, none⟩ = some (.bool d.off) := cellOf h.hd 0
  have c1 : w.cell? ⟨bd, 1, none⟩ = some (.int .i64 d.left) := cellOf h.hd 1
  have f0 : w.frozen? ⟨bd, 0, none⟩ = false := frozenOf h.hd 0
  have f1 : w.frozen? ⟨bd, 1, none⟩ = false := frozenOf h.hd 1
  have H := Lib.hid h
  have HO := Lib.hid ho
  clear h ho
  go_enter Tryz.func46, Tryz.ntmps46
  go_wp2_with fail
  refine (check_ok H.out HO.out).mono ?_
  rintro e w' ⟨rfl, rfl⟩
  go_wp2_with fail
  go_ret
  have U : Upd (· = bd) w ((w.setCell ⟨bd, 0, none⟩ (.bool (x == 0))).setCell ⟨bd, 1, none⟩ (.int .i64 x)) := ((Upd.refl (· = bd) w).setCell _ _ (.inl rfl)).setCell _ _ (.inl rfl)
  have hnu : bu ≠ bd := ty_ne H.out.hu H.out.hd (by decide)
  have hnv : bv ≠ bd := ty_ne H.out.hv H.out.hd (by decide)
  have hnp := own_neK H.out.hp H.out.hd (by decide)
  refine ⟨rfl, ⟨?_, U.at H.out.hu hnu, U.at H.out.hv hnv, ?_, H.out.ne, H.out.lu, H.out.lv, H.out.lo, H.out.hi, h0, h1, H.out.fit⟩, U⟩
  · rw [setOf_ (setOf_ H.out.hd 0 _) 1 _]; rfl
  · exact (H.out.hp.kept (Lib.grownBy_setCell w bd 0 _) (.inr hnp)).kept (Lib.grownBy_setCell _ bd 1 _) (.inr hnp)

set_option maxHeartbeats 400000 in
theorem Cut_off (h : DiskAt w bd bu bv pv n d) (ho : d.off = true) (x : Int) :
    Calls Tryz.prog 46 #[.pointer (some ⟨bd, 0, none⟩), .int .i64 x] w fun e w' => e = .returned (.int .i64 251) ∧ w = w' := by
  have H := Lib.hid h
  have HO := Lib.hid ho
  clear h ho
  go_enter Tryz.func46, Tryz.ntmps46
  go_wp2_with fail
  refine (check_off H.out HO.out).mono ?_
  rintro e w' ⟨rfl, rfl⟩
  go_wp2_with fail
  go_ret
  exact ⟨rfl, rfl⟩

set_option maxHeartbeats 400000 in
theorem Cut_nil (w : World) (x : Int) :
    Calls Tryz.prog 46 #[.pointer none, .int .i64 x] w fun e w' => e = .returned (.int .i64 1) ∧ w = w' := by
  go_enter Tryz.func46, Tryz.ntmps46
  go_wp2_with fail
  refine (check_nil _).mono ?_
  rintro e w' ⟨rfl, rfl⟩
  go_wp2_with fail
  go_ret
  exact ⟨rfl, rfl⟩

set_option maxHeartbeats 400000 in
theorem Cut_neg (h : DiskAt w bd bu bv pv n d) (ho : d.off = false) (x : Int) (h0 : x < 0) :
    Calls Tryz.prog 46 #[.pointer (some ⟨bd, 0, none⟩), .int .i64 x] w fun e w' => e = .returned (.int .i64 2) ∧ w = w' := by
  have H := Lib.hid h
  have HO := Lib.hid ho
  clear h ho
  go_enter Tryz.func46, Tryz.ntmps46
  go_wp2_with fail
  refine (check_ok H.out HO.out).mono ?_
  rintro e w' ⟨rfl, rfl⟩
  go_wp2_with fail
  go_ret
  exact ⟨rfl, rfl⟩

end
end Go.Proofs.YthlmgookaljgnaaGreatDoor
namespace Go.Proofs.YthlmgookaljgnaaGreatDoor
open Go.RowKit
set_option linter.unusedVariables false

theorem Tryz.infoByte : (Tryz.prog.info? 5).map (fun i => (i.zero, i.size, i.bytes)) = some (some (.int .u8 0), 1, 1) := by kernel_rfl

theorem madeBytes (n : Nat) : madeCells #[.int .u8 0] n = (bytesV (List.replicate n 0)).toArray := by
  apply Array.ext
  · simp [madeCells, bytesV]
  · intro i h1 h2
    simp [madeCells, bytesV, Nat.mod_one]

theorem new_end (w : World) (n : Nat) (h1 : 1 ≤ n) (h2 : (n : Int) ≤ 4194304) (bu bv : Nat) (hb : (bu = w.heap.size ∧ bv = w.heap.size + 1) ∨ (bu = w.heap.size + 1 ∧ bv = w.heap.size)) :
    DiskAt (((w.alloc (.cells (madeCells #[.int .u8 0] n) 5)).alloc (.cells (madeCells #[.int .u8 0] n) 5)).alloc
        (.cells #[.bool false, .int .i64 0, .slice (some ⟨bu, 0, none⟩) n n, .slice (some ⟨bv, 0, none⟩) n n, .slice none 0 0] 91)).drew
      (w.heap.size + 2) bu bv (.slice none 0 0) n ⟨false, 0, List.replicate n 0, List.replicate n 0, []⟩ ∧
    Below w.heap.size w (((w.alloc (.cells (madeCells #[.int .u8 0] n) 5)).alloc (.cells (madeCells #[.int .u8 0] n) 5)).alloc
        (.cells #[.bool false, .int .i64 0, .slice (some ⟨bu, 0, none⟩) n n, .slice (some ⟨bv, 0, none⟩) n n, .slice none 0 0] 91)).drew ∧
    w.heap.size ≤ w.heap.size + 2 ∧ w.heap.size ≤ bu ∧ w.heap.size ≤ bv := by
  rw [madeBytes]
  have e0 : ∀ o p q : Obj, (((w.alloc o).alloc p).alloc q).drew.heap[w.heap.size]? = some o := fun o p q => by
    rw [drewHeap, allocOld (by simp; omega), allocOld (by simp), allocAt _ rfl]
  have e1 : ∀ o p q : Obj, (((w.alloc o).alloc p).alloc q).drew.heap[w.heap.size + 1]? = some p := fun o p q => by
    rw [drewHeap, allocOld (by simp), allocAt _ (by simp)]
  have e2 : ∀ o p q : Obj, (((w.alloc o).alloc p).alloc q).drew.heap[w.heap.size + 2]? = some q := fun o p q => by
    rw [drewHeap, allocAt _ (by simp)]
  refine ⟨⟨e2 _ _ _, ?_, ?_, World.ownsRow_nil _ _ _ _, by omega, by simp, by simp, h1, by omega, by simp, by simp, by simp⟩, (((Below.refl _ w).alloc (Nat.le_refl _) _).alloc (by simp) _ |>.alloc (by simp; omega) _).drew, by omega, by omega, by omega⟩
  · rcases hb with ⟨rfl, rfl⟩ | ⟨rfl, rfl⟩
    · exact e0 _ _ _
    · exact e1 _ _ _
  · rcases hb with ⟨rfl, rfl⟩ | ⟨rfl, rfl⟩
    · exact e1 _ _ _
    · exact e0 _ _ _

set_option maxHeartbeats 800000 in
theorem New_ok (w : World) (n : Nat) (h1 : 1 ≤ n) (h2 : (n : Int) ≤ 4194304) :
    Calls Tryz.prog 23 #[.int .i64 (n : Int)] w fun e w' => ∃ bd bu bv,
      e = .returned (.tuple #[.pointer (some ⟨bd, 0, none⟩), .int .i64 0]) ∧ DiskAt w' bd bu bv (.slice none 0 0) n ⟨false, 0, List.replicate n 0, List.replicate n 0, []⟩ ∧
      Below w.heap.size w w' ∧ w.heap.size ≤ bd ∧ w.heap.size ≤ bu ∧ w.heap.size ≤ bv := by
  have hmk : ∀ W : World, (Instr.makeSlice 39 (.int .i64 (n : Int)) (.int .i64 (n : Int))).run Tryz.prog W = .ok (.slice (some ⟨W.heap.size, 0, none⟩) n n) (W.alloc (.cells (madeCells #[.int .u8 0] n) 5)) := by
    intro W
    exact run_make_row' 39 5 (.int .u8 0) 1 Tryz.underlying39 Tryz.infoByte rfl .i64 .i64 n (by omega) (by omega) W
  have hn0 : ¬ (n : Int) < 1 := by omega
  have hn1 : ¬ (4194304 : Int) < n := by omega
  go_enter Tryz.func23, Tryz.ntmps23
  go_wp2
  go_region
  all_goals (go_wp2; go_ret2)
  · exact ⟨w.heap.size + 2, w.heap.size, w.heap.size + 1, rfl, new_end w n h1 h2 _ _ (.inl ⟨rfl, rfl⟩)⟩
  · exact ⟨w.heap.size + 2, w.heap.size + 1, w.heap.size, rfl, new_end w n h1 h2 _ _ (.inr ⟨rfl, rfl⟩)⟩

theorem New_bad (w : World) (x : Int) (h : ¬ (1 ≤ x ∧ x ≤ 4194304)) :
    Calls Tryz.prog 23 #[.int .i64 x] w fun e w' => e = .returned (.tuple #[.pointer none, .int .i64 2]) ∧ w = w' := by
  by_cases h1 : x < 1
  · have h1' : decide (x < 1) = true := by simpa using h1
    go_enter Tryz.func23, Tryz.ntmps23
    go_wp2
    go_ret2
    exact ⟨rfl, rfl⟩
  · have h2 : (4194304 : Int) < x := by omega
    have h1' : decide (x < 1) = false := by simpa using h1
    go_enter Tryz.func23, Tryz.ntmps23
    go_wp2
    go_ret2
    exact ⟨rfl, rfl⟩

end Go.Proofs.YthlmgookaljgnaaGreatDoor
