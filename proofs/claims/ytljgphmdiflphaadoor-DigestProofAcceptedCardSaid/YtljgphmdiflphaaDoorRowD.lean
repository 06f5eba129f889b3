/- What a row of the digest's laws gives a walk: lists of strings, the table that is laid. -/
import Derived.Test.YtljgphmdiflphaaDoorShaC
import Derived.Test.YtljgphmdiflphaaDoorTreeA
import Derived.Test.YtljgphmdiflphaaDoorRows
import Derived.SliceStrings
import Derived.LaidMore
import Derived.LaidLaws
import Derived.LaidHandle
import Derived.Lib.LaidTab
import Derived.MakeChecks
import Derived.OpenShut
import Derived.ProofKit
namespace Go.Proofs.YtljgphmdiflphaaDoor
open Go.ChangeShapes Go.WideShapes Go.ChangeAt Go.RowKit
set_option linter.unusedVariables false

theorem cell_spot {w : World} {x : Addr} {v : Value} (h : w.cell? x = some v) : x.spot = none := by
  unfold World.cell? at h
  split at h
  · split at h
    · cases h
    · first | assumption | (rename_i e; simpa using e) | simp_all
  · cases h
theorem open_strs {H : Type} {enc : TypeId × Value → H} {w : World} {held : Bool} {a : Option Addr} {len cap : Nat} {d : DataW H} {ps : List MemPlace}
    (h : DataW.Trod enc Tryd.prog w 0 (fun _ => true) held 22 (.slice a len cap) d ps) :
    len ≤ cap ∧ cap ≤ 9223372036854775807 ∧ ∃ zs : List ByteArray, zs.length = len ∧ SL w (.slice a len cap) zs ∧ ∀ s ∈ zs, s.size ≤ 9223372036854775807 := by
  obtain ⟨fuel, hf⟩ := h
  rcases open_strings Tryd.underlying22 Tryd.underlying9 (by kernel_rfl) hf with ⟨hcs, _⟩ | ⟨x, l, c, ss, hcs, _, hl, hm, hlen, _, hcell, hsz⟩
  · simp [Value.cells] at hcs
    obtain ⟨rfl, rfl, rfl⟩ := hcs
    exact ⟨Nat.le_refl _, by omega, [], rfl, SL.nil _, fun s h => by cases h⟩
  · simp [Value.cells] at hcs
    obtain ⟨rfl, rfl, rfl⟩ := hcs
    rw [if_pos rfl] at hlen
    have hlt : (ss.take len).length = len := by rw [List.length_take]; omega
    refine ⟨hl, hm, ss.take len, hlt, ⟨_, cap, by rw [hlt], by omega, fun h0 => ?_⟩, fun s hs => hsz s (List.mem_of_mem_take hs)⟩
    have c00 := hcell 0 (by omega)
    have hs : x.spot = none := by
      have := cell_spot c00
      simpa [Addr.add] using this
    have hb : x.block < w.heap.size := by
      have := World.block_lt_of_cell? _ _ c00
      simpa [Addr.add] using this
    obtain ⟨b, o, sp⟩ := x
    simp only at hs hb
    subst hs
    refine ⟨b, o, rfl, hb, fun j y hj => ?_⟩
    have hjl : j < len := by have := (List.getElem?_eq_some_iff.1 hj).1; omega
    have cj := hcell j (by omega)
    have hadd : (⟨b, o, none⟩ : Addr).add j = ⟨b, o + j, none⟩ := by
      unfold Addr.add
      by_cases h : j = 0
      · subst h; simp
      · simp [h]
    rw [hadd] at cj
    rw [cj]
    rw [List.getElem?_take, if_pos hjl] at hj
    rw [List.getD_eq_getElem?_getD, hj]; rfl

def roundList : List (String × DataW Unit) := [("workpiece/digest.round", Rows.laid_workpiece_digest_round)]
theorem gRound : Tryd.prog.globalNamed "workpiece/digest.round" = some 0 := by kernel_rfl
theorem door_met (os : Os) (args : Array Value) : laidMetH Tryd.prog roundList ((World.doorLaid Tryd.prog 43 os).forCall (fun _ _ => 0) ⟨#[], args, []⟩).memory :=
  laidMetH_of_parts3 (fuel := 8) (laidMet_of_run' 8 (by kernel_rfl) (by kernel_rfl)) (by kernel_rfl) (by kernel_rfl)
theorem round_of_laid {W : World} (h : laidMetH Tryd.prog roundList W) : RoundLaid W := by
  rw [MakeChecks.laidMetH_plain _ _ _ (by kernel_rfl)] at h
  have h1 : laidMet Tryd.prog (("workpiece/digest.round", Lib.tabData .u32 (Sha.K.map Int.ofNat)) :: []) W := h
  have h2 := Lib.tabIs_of_head (g := 0) (t := 124) (e := 82) (n := 64) gRound (by kernel_rfl) Tryd.underlying124 Tryd.underlying82 (by kernel_rfl) (by kernel_rfl) h1
  unfold Lib.TabIs World.var? at h2
  rw [gRound] at h2
  simp only [Option.bind_some] at h2
  split at h2
  · rename_i cs t fr e
    have h3 := Option.some.inj h2
    subst h3
    exact ⟨(t, fr), e⟩
  · cases h2
end Go.Proofs.YtljgphmdiflphaaDoor
