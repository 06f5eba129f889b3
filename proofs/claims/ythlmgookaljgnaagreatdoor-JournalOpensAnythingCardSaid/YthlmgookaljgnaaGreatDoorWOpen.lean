/- law26: the world of a journal and its reference: open. -/
import Derived.Test.YthlmgookaljgnaaGreatDoorOpenP
namespace Go.Proofs.YthlmgookaljgnaaGreatDoor
open Go.RowKit Go.Shelf
set_option linter.unusedVariables false
set_option linter.unusedSimpArgs false

theorem openJ_cases (n : Nat) (d : DV) : (∃ c d', openJ n d = (c, none, d') ∧ ¬ c = 0) ∨ ∃ t d', openJ n d = (0, some t, d') := by
  unfold openJ
  split
  · exact .inl ⟨251, d, rfl, by decide⟩
  · split
    · exact .inl ⟨262, d, rfl, by decide⟩
    · split
      · exact .inr ⟨_, _, rfl⟩
      · split
        · exact .inl ⟨251, _, rfl, by decide⟩
        · exact .inr ⟨_, _, rfl⟩
/-- the two disks beside the world's block -/
structure W0 (w : World) (wb bd bx n : Nat) (pj pk : Value) (d : DV) (F G : Nat → Prop) : Prop where
  cell : w.heap[wb]? = some (.cells #[.pointer (some ⟨bd, 0, none⟩), pj, .pointer (some ⟨bx, 0, none⟩), pk] 32 (0, 0))
  kd : DiskF w bd n d F
  kr : RefF w bx n d G
  ap : ∀ k, F k → ¬ G k
  nF : ¬ F wb
  nG : ¬ G wb
/-- both journals, or none -/
def WSt (w : World) (wb bd bx n : Nat) (o : Option (Bool × TV)) (d : DV) (F G : Nat → Prop) : Prop :=
  match o with
  | none => W0 w wb bd bx n (.pointer none) (.pointer none) d F G
  | some (br, t) => ∃ jb kb, w.heap[wb]? = some (.cells #[.pointer (some ⟨bd, 0, none⟩), .pointer (some ⟨jb, 0, none⟩), .pointer (some ⟨bx, 0, none⟩), .pointer (some ⟨kb, 0, none⟩)] 32 (0, 0)) ∧
      JG w jb bd n br t d F ∧ RG w kb bx n br t d G ∧ (∀ k, F k → ¬ G k) ∧ ¬ F wb ∧ ¬ G wb
def WMoves (wb : Nat) (F G F' G' : Nat → Prop) (w w' : World) : Prop := Upd (fun k => k = wb ∨ F k ∨ G k) w w' ∧ (∀ k, F' k → F k ∨ w.heap.size ≤ k) ∧ ∀ k, G' k → G k ∨ w.heap.size ≤ k
theorem RefF.toRG {w : World} {jb bx n : Nat} {lv : Value} {t : TV} {d : DV} {G : Nat → Prop} (h : RefF w bx n d G) (hj : RJAt w jb bx lv false t) (h1 : ¬ G jb) (h2 : ∀ q, lv.ownBlock = some q → ¬ G q) : RG w jb bx n false t d (fun k => k = jb ∨ lv.ownBlock = some k ∨ G k) := by
  obtain ⟨gs, cs, lv0, hr, hG⟩ := h
  exact ⟨lv, gs, cs, lv0, hj, hr, fun f => h1 ((hG _).2 f), fun q e f => h2 q e ((hG _).2 f), fun k => by show (k = jb ∨ lv.ownBlock = some k ∨ G k) ↔ _; rw [hG k]⟩
theorem RG.upd {S : Nat → Prop} {w w' : World} {jb bx n : Nat} {br : Bool} {t : TV} {d : DV} {H : Nat → Prop} (h : RG w jb bx n br t d H) (hU : Upd S w w') (hS : ∀ k, H k → ¬ S k) : RG w' jb bx n br t d H := by
  obtain ⟨lv, gs, cs, lv0, hj, hr, a, b, c⟩ := h
  exact ⟨lv, gs, cs, lv0, hj.upd hU (hS _ ((c _).2 (.inl rfl))) (fun q e => hS q ((c q).2 (.inr (.inl e)))), hr.upd hU (fun k f => hS k ((c k).2 (.inr (.inr f)))), a, b, c⟩

theorem WApart {w w1 w2 : World} {wb bd bx n : Nat} {pj pk v1 v3 : Value} {d : DV} {F G F1 G1 : Nat → Prop} (H : W0 w wb bd bx n pj pk d F G) (m1 : Moves F F1 w w1) (lt1 : ∀ k, F1 k → k < w1.heap.size) (m2 : Moves G G1 w1 w2) :
    (∀ k, F1 k → ¬ G k) ∧ (∀ k, F1 k → ¬ G1 k) ∧ ¬ F1 wb ∧ ¬ G1 wb ∧ Upd (fun k => k = wb) w2 ((w2.setCell ⟨wb, 1, none⟩ v1).setCell ⟨wb, 3, none⟩ v3) ∧ WMoves wb F G F1 G1 w ((w2.setCell ⟨wb, 1, none⟩ v1).setCell ⟨wb, 3, none⟩ v3) := by
  have hwb := ltOf H.cell
  have hs1 := m1.1.size
  have a1 : ∀ k, F1 k → ¬ G k := fun k hf hg => by
    rcases m1.2 k hf with x | x
    · exact H.ap k x hg
    · have := H.kr.lt hg; omega
  have hU : Upd (fun k => k = wb) w2 ((w2.setCell ⟨wb, 1, none⟩ v1).setCell ⟨wb, 3, none⟩ v3) := ((Upd.refl (fun k => k = wb) w2).setCell ⟨wb, 1, none⟩ v1 (.inl rfl)).setCell ⟨wb, 3, none⟩ v3 (.inl rfl)
  refine ⟨a1, fun k hf hg => ?_, fun hf => ?_, fun hg => ?_, hU, ?_, m1.2, fun k hk => (m2.2 k hk).imp id (fun x => by omega)⟩
  · rcases m2.2 k hg with x | x
    · exact a1 k hf x
    · have := lt1 k hf; omega
  · rcases m1.2 wb hf with x | x
    · exact H.nF x
    · omega
  · rcases m2.2 wb hg with x | x
    · exact H.nG x
    · omega
  · exact ((m1.1.mono (fun i _ f => Or.inr (Or.inl f))).trans m2.1 (fun i _ g => Or.inr (Or.inr g))).trans hU (fun i _ e => Or.inl e)

set_option maxHeartbeats 2000000 in
theorem WOpen_any {w : World} {wb bd bx n : Nat} {pj pk : Value} {d : DV} {F G : Nat → Prop} (h : W0 w wb bd bx n pj pk d F G) (hn : n ≤ 800000) (hR : RoundLaid w) (a : Addr) (hD : DamLaid a w) (hpe : d.pe.length ≤ 100000) :
    Calls Tryz.prog 14 #[.pointer (some ⟨wb, 0, none⟩)] w fun e w' => e = .returned (.bool true) ∧ ∃ F' G', WSt w' wb bd bx n ((openJ n d).2.1.map (Prod.mk false)) (openJ n d).2.2 F' G' ∧ WMoves wb F G F' G' w w' := by
  have OP := Lib.hid (OpenP_any h.kd (by omega) hR a hD hpe)
  have H := Lib.hid h
  have c0 : w.cell? ⟨wb, 0, none⟩ = some (.pointer (some ⟨bd, 0, none⟩)) := cellOf h.cell 0
  clear h hR hD
  rcases openJ_cases n d with ⟨c, d', e0, hc⟩ | ⟨t, d', e0⟩
  · rw [e0] at OP ⊢
    have E0 := Lib.hid e0
    clear e0
    go_enter Tryz.func14, Tryz.ntmps14
    go_wp2_with (first
      | (go_at_call 24
         refine OP.out.mono ?_
         rintro e w1 ⟨rfl, F1, hk, hm⟩
         have h1 := hm.1.at H.out.cell H.out.nF
         have c1 : w1.cell? ⟨wb, 2, none⟩ = some (.pointer (some ⟨bx, 0, none⟩)) := cellOf h1 2
         have RO := Lib.hid (ROpen_any (H.out.kr.upd hm.1 (fun k g f => H.out.ap k f g)) hn hpe)
         rw [E0.out] at RO
         have H1 := Lib.hid h1
         have K1 := Lib.hid (And.intro hk hm)
         clear h1 hk hm)
      | (go_at_call 42
         refine RO.out.mono ?_
         rintro e w2 ⟨rfl, G1, hr, hm⟩
         have hwb := ltOf H1.out
         have hn2 : ¬ G wb := H.out.nG
         have h2 := hm.1.at H1.out hn2
         have f1 : w2.frozen? ⟨wb, 1, none⟩ = false := frozenOf h2 1
         have q1 : w2.cell? ⟨wb, 1, none⟩ = some pj := cellOf h2 1
         have f3 : (w2.setCell ⟨wb, 1, none⟩ (.pointer none)).frozen? ⟨wb, 3, none⟩ = false := frozenOf (setOf_ h2 1 (.pointer none)) 3
         have q3 : (w2.setCell ⟨wb, 1, none⟩ (.pointer none)).cell? ⟨wb, 3, none⟩ = some pk := cellOf (setOf_ h2 1 (.pointer none)) 3
         have H2 := Lib.hid h2
         have K2 := Lib.hid (And.intro hr hm)
         clear h2 hr hm hn2)
      | fail)
    go_ret
    obtain ⟨b1, b2, b3, b4, b5, b6⟩ := WApart (v1 := .pointer none) (v3 := .pointer none) H.out K1.out.2 (fun k hk => K1.out.1.lt hk) K2.out.2
    have hcb : (c != 0) = true := by simpa using hc
    refine ⟨congrArg (fun b => Ending.returned (.bool b)) hcb, F1, G1, ⟨setOf_ (setOf_ H2.out 1 (.pointer none)) 3 (.pointer none), (K1.out.1.upd K2.out.2.1 b1).upd b5 (fun k f e => b3 (e ▸ f)), K2.out.1.upd b5 (fun k f e => b4 (e ▸ f)), b2, b3, b4⟩, b6⟩
  · rw [e0] at OP ⊢
    have E0 := Lib.hid e0
    clear e0
    go_enter Tryz.func14, Tryz.ntmps14
    go_wp2_with (first
      | (go_at_call 24
         refine OP.out.mono ?_
         rintro e w1 ⟨jb, F1, rfl, hk, hm⟩
         have h1 := hm.1.at H.out.cell H.out.nF
         have c1 : w1.cell? ⟨wb, 2, none⟩ = some (.pointer (some ⟨bx, 0, none⟩)) := cellOf h1 2
         have RO := Lib.hid (ROpen_any (H.out.kr.upd hm.1 (fun k g f => H.out.ap k f g)) hn hpe)
         rw [E0.out] at RO
         have H1 := Lib.hid h1
         have K1 := Lib.hid (And.intro hk hm)
         clear h1 hk hm)
      | (go_at_call 42
         refine RO.out.mono ?_
         rintro e w2 ⟨kb, lvk, G1, rfl, hr, hm, hj, hkb, hnk, hnl⟩
         have hwb := ltOf H1.out
         have hn2 : ¬ G wb := H.out.nG
         have h2 := hm.1.at H1.out hn2
         have f1 : w2.frozen? ⟨wb, 1, none⟩ = false := frozenOf h2 1
         have q1 : w2.cell? ⟨wb, 1, none⟩ = some pj := cellOf h2 1
         have f3 : (w2.setCell ⟨wb, 1, none⟩ (.pointer (some ⟨jb, 0, none⟩))).frozen? ⟨wb, 3, none⟩ = false := frozenOf (setOf_ h2 1 (.pointer (some ⟨jb, 0, none⟩))) 3
         have q3 : (w2.setCell ⟨wb, 1, none⟩ (.pointer (some ⟨jb, 0, none⟩))).cell? ⟨wb, 3, none⟩ = some pk := cellOf (setOf_ h2 1 (.pointer (some ⟨jb, 0, none⟩))) 3
         have H2 := Lib.hid h2
         have K2 := Lib.hid (And.intro (hr.toRG hj hnk hnl) (show Moves G (fun k => k = kb ∨ lvk.ownBlock = some k ∨ G1 k) w1 w2 from ⟨hm.1, fun k hk => hk.elim (fun e => .inr (e ▸ hkb)) (fun hk => hk.elim (fun e => .inr (by have := (hj.ne e).1; omega)) (hm.2 k))⟩))
         clear h2 hr hm hn2)
      | fail)
    go_ret
    obtain ⟨b1, b2, b3, b4, b5, b6⟩ := WApart (v1 := .pointer (some ⟨jb, 0, none⟩)) (v3 := .pointer (some ⟨kb, 0, none⟩)) H.out K1.out.2 (fun k hk => K1.out.1.lt hk) K2.out.2
    refine ⟨rfl, F1, _, ⟨jb, kb, setOf_ (setOf_ H2.out 1 (.pointer (some ⟨jb, 0, none⟩))) 3 (.pointer (some ⟨kb, 0, none⟩)), (K1.out.1.upd K2.out.2.1 b1).upd b5 (fun k f e => b3 (e ▸ f)), K2.out.1.upd b5 (fun k f e => b4 (e ▸ f)), b2, b3, b4⟩, b6⟩
end Go.Proofs.YthlmgookaljgnaaGreatDoor
