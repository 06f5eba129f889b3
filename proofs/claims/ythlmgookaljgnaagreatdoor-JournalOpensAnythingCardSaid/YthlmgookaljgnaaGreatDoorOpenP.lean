/- The journal: Open, whatever is on the disk. -/
import Derived.Test.YthlmgookaljgnaaGreatDoorRfA
namespace Go.Proofs.YthlmgookaljgnaaGreatDoor
open Go.RowKit Go.Shelf
set_option linter.unusedVariables false
set_option linter.unusedSimpArgs false

theorem Open_off {w : World} {bd n : Nat} {d : DV} {F : Nat → Prop} (h : DiskF w bd n d F) (ho : d.off = true) :
    Calls Tryz.prog 24 #[.pointer (some ⟨bd, 0, none⟩)] w fun e w' => e = .returned (.tuple #[.pointer none, .int .i64 251]) ∧ w = w' := by
  have SZ := Lib.hid (sizeF h)
  have RD := Lib.hid (readF_off h ho 0 (n : Int))
  clear h ho
  go_enter Tryz.func24, Tryz.ntmps24
  go_wp2_with (first
    | (go_at_call 43; refine SZ.out.mono ?_; rintro e W2 ⟨rfl, rfl⟩)
    | (go_at_call 44; refine RD.out.mono ?_; rintro e W3 ⟨rfl, rfl⟩)
    | fail)
  go_ret2
  exact ⟨rfl, rfl⟩
/-- what Open answers -/
def POut (w : World) (bd n : Nat) (F : Nat → Prop) (o : Int × Option TV × DV) (e : Ending) (w' : World) : Prop :=
  match o with
  | (c, none, d') => e = .returned (.tuple #[.pointer none, .int .i64 c]) ∧ ∃ F', DiskF w' bd n d' F' ∧ Moves F F' w w'
  | (c, some t, d') => ∃ jb G', e = .returned (.tuple #[.pointer (some ⟨jb, 0, none⟩), .int .i64 c]) ∧ JG w' jb bd n false t d' G' ∧ Moves F G' w w'
theorem OpenP_any {w : World} {bd n : Nat} {d : DV} {F : Nat → Prop} (h : DiskF w bd n d F) (hn : n ≤ 900000) (hR : RoundLaid w) (a : Addr) (hD : DamLaid a w) (hpe : d.pe.length ≤ 100000) :
    Calls Tryz.prog 24 #[.pointer (some ⟨bd, 0, none⟩)] w fun e w' => POut w bd n F (openJ n d) e w' := by
  by_cases ho : d.off = true
  · have e0 : openJ n d = (251, none, d) := by rw [openJ, if_pos ho]
    rw [e0]
    refine (Open_off h ho).mono ?_
    rintro e w' ⟨rfl, rfl⟩
    exact ⟨rfl, F, h, Moves.refl _ _⟩
  have ho' : d.off = false := by simpa using ho
  rcases hL : loadP (diskB d) (n + 1) tv0 with _ | t1
  · have e0 : openJ n d = (262, none, d) := by rw [openJ, if_neg ho, hL]
    rw [e0]
    refine (Open_bad h ho' hn hR a hD hL).mono ?_
    rintro e w' ⟨rfl, hB⟩
    have hU : Upd (fun _ => False) w w' := Upd.of_below hB
    exact ⟨rfl, F, h.upd hU (fun _ _ f => f), hU.mono (fun _ _ f => f.elim), fun _ h => .inl h⟩
  by_cases hz : d.vi.drop t1.size = List.replicate (n - t1.size) 0
  · have e0 : openJ n d = (0, some t1, d) := by rw [openJ, if_neg ho, hL]; simp only; rw [if_pos hz]
    rw [e0]
    exact OpenJ_ok h hn hR a hD hpe e0
  have hne := ne_zero_of (by rw [List.length_drop, h.size_pos.2.2.1]) hz
  by_cases ho1 : (writeD d t1.size ⟨(List.replicate (n - t1.size) (0 : UInt8)).toArray⟩).off = true
  · have e0 : openJ n d = (251, none, writeD d t1.size ⟨(List.replicate (n - t1.size) (0 : UInt8)).toArray⟩) := by rw [openJ, if_neg ho, hL]; simp only; rw [if_neg hz, if_pos ho1]
    rw [e0]
    refine (Open_write h ho' hn hR a hD _ hL hne hpe).mono ?_
    rintro e w' ⟨F', d', h1, h2, ⟨h3, rfl, rfl⟩ | ⟨h3, _⟩⟩
    · exact ⟨rfl, F', h1, h2⟩
    · exact absurd (h3 ▸ ho1) (by decide)
  · have e0 : openJ n d = (0, some t1, syncD (writeD d t1.size ⟨(List.replicate (n - t1.size) (0 : UInt8)).toArray⟩)) := by rw [openJ, if_neg ho, hL]; simp only; rw [if_neg hz, if_neg ho1]
    rw [e0]
    exact OpenJ_ok h hn hR a hD hpe e0
end Go.Proofs.YthlmgookaljgnaaGreatDoor
