/- What a row of the journal's laws gives a walk: the table, the sentinel.
  The reference's encoding of lengths and strings.
-/
import Derived.Test.YtljgphmdiflphaaDoorMg
import Derived.Test.YtljgphmdiflphaaDoorMi
import Derived.Test.YtljgphmdiflphaaDoorMb
import Derived.Test.YtljgphmdiflphaaDoorMe
import Derived.Lay
import Derived.Stop.LaidErr
namespace Go.Proofs.YtljgphmdiflphaaDoor
open Go.ChangeShapes Go.WideShapes Go.ChangeAt Go.RowKit
set_option linter.unusedVariables false

theorem star_es : "*" ++ "errors.errorString" = "*errors.errorString" := by decide
theorem rowES (u : TypeId) (h : Tryd.prog.typeName? 3 u = some "*errors.errorString") : u = 193 :=
  typeName_ptr_named (nm := "errors.errorString") (by rw [star_es]; kernel_rfl) (by kernel_rfl) (by decide) u (by rw [star_es]; exact h)
theorem gDam : Tryd.prog.globalNamed "workpiece/journal.errDamaged" = some 1 := by kernel_rfl
theorem dam_of_list {W : World} {rest : List (String × DataW Unit)} (h : laidMet Tryd.prog (("workpiece/journal.errDamaged", Rows.laid_workpiece_journal_errDamaged) :: rest) W) : ∃ a, DamLaid a W := by
  obtain ⟨a0, s0, hv0, hc0, hs0, hz0⟩ := laid_sentinel h gDam (by kernel_rfl) Tryd.underlying115 rowES Tryd.underlying193 Tryd.underlying215 rfl rfl Tryd.underlying9 (by kernel_rfl) (by kernel_rfl)
  refine ⟨a0, ?_⟩
  unfold World.var? at hv0
  rw [gDam] at hv0
  simp only [Option.bind_some] at hv0
  split at hv0
  · rename_i cs t fr e
    have h3 := Option.some.inj hv0
    subst h3
    have hb : 1 < W.heap.size := ltOf e
    exact ⟨by unfold World.cell?; simp [e, damE], hb⟩
  · cases hv0
theorem round_of_list {W : World} {rest : List (String × DataW Unit)} (h : laidMet Tryd.prog (("workpiece/digest.round", Rows.laid_workpiece_digest_round) :: rest) W) : RoundLaid W := by
  have h1 : laidMet Tryd.prog (("workpiece/digest.round", Lib.tabData .u32 (Sha.K.map Int.ofNat)) :: rest) W := h
  have h2 := Lib.tabIs_of_head (g := 0) (t := 124) (e := 82) (n := 64) gRound (by kernel_rfl) Tryd.underlying124 Tryd.underlying82 (by kernel_rfl) (by kernel_rfl) h1
  unfold Lib.TabIs World.var? at h2
  rw [gRound] at h2
  simp only [Option.bind_some] at h2
  split at h2
  · rename_i cs t fr e
    have h3 := Option.some.inj h2
    subst h3
    exact ⟨(t, fr), e⟩
  · cases h2
def jList : List (String × DataW Unit) := [("unicode/utf8.acceptRanges", Rows.laid_unicode_utf8_acceptRanges), ("workpiece/digest.round", Rows.laid_workpiece_digest_round), ("workpiece/journal.errDamaged", Rows.laid_workpiece_journal_errDamaged), ("unicode/utf8.first", Rows.laid_unicode_utf8_first)]
theorem jList_met {W : World} (h : laidMetH Tryd.prog jList W) : RoundLaid W ∧ ∃ a, DamLaid a W := by
  rw [MakeChecks.laidMetH_plain _ _ _ (by kernel_rfl)] at h
  have h0 : laidMet Tryd.prog (("unicode/utf8.acceptRanges", Rows.laid_unicode_utf8_acceptRanges) :: ("workpiece/digest.round", Rows.laid_workpiece_digest_round) :: ("workpiece/journal.errDamaged", Rows.laid_workpiece_journal_errDamaged) :: ("unicode/utf8.first", Rows.laid_unicode_utf8_first) :: []) W := h
  exact ⟨round_of_list h0.tail, dam_of_list h0.tail.tail⟩
theorem jWitness_met (os : Os) (args : Array Value) : laidMetH Tryd.prog jList ((World.laidAll Tryd.prog os jList).forCall (fun _ _ => 0) ⟨#[], args, []⟩).memory := by
  rw [MakeChecks.laidMetH_plain _ _ _ (by kernel_rfl)]
  exact laidMet_laidAll _ (by kernel_rfl) (by kernel_rfl)
end Go.Proofs.YtljgphmdiflphaaDoor
namespace Go.Proofs.YtljgphmdiflphaaDoor
open Go.RowKit Go.Shelf
set_option linter.unusedVariables false

theorem zigzag_any (k : Nat) (hk : k ≤ 1000000000) (w : World) : Calls Tryd.prog 111 #[.int .i64 (k : Int)] w fun e w' => e = .returned (.int .u64 ((2 * k : Nat) : Int)) ∧ w = w' := by
  have q1 : ¬ (k : Int) < 0 := by omega
  have HE : Hid ((k : Int) * 2 = ((2 * k : Nat) : Int)) := Lib.hid (by omega)
  go_enter Tryd.func111, Tryd.ntmps111
  go_wp2
  go_ret
  rw [HE.out]
  exact ⟨rfl, rfl⟩

set_option maxRecDepth 100000 in
set_option maxHeartbeats 2000000 in
theorem PutIntR_any (k : Nat) (hk : k ≤ 100000000) (w : World) :
    Calls Tryd.prog 77 #[.int .i64 (k : Int)] w fun e w' => e = .returned (.tuple #[.string (intS k), .int .i64 0]) ∧ Below w.heap.size w w' := by
  obtain ⟨i0, hi, hz0, hz1, hz2⟩ := info_parts Tryd.infoByte'
  have ZZ := Lib.hid (zigzag_any k (by omega) w)
  obtain ⟨Z, hZ⟩ : ∃ Z, 2 * k = Z := ⟨_, rfl⟩
  have HZ := Lib.hid hZ
  rw [hZ] at ZZ
  have hZb : Z ≤ 200000000 := by omega
  clear hZ
  have q1 : ¬ (k : Int) < -4611686018427387903 := by omega
  have q2 : ¬ (k : Int) > 4611686018427387903 := by omega
  go_enter Tryd.func77, Tryd.ntmps77
  go_wp2_with (go_at_call 111; refine ZZ.out.mono ?_; rintro e w' ⟨rfl, rfl⟩)
  clear ZZ
  go_loopw [4, 5] (fun zv ov wr => ∃ (z : Nat) (pre : List Nat), zv = .int .u64 (z : Int) ∧ z ≤ Z ∧ encZ Z = pre ++ encZ z ∧ pre.length ≤ 10 ∧ Sha.bytes pre ∧ OB w pre pre.length ov wr) (fun zv _ _ => (intOf zv).toNat)
  case atStart => exact ⟨Z, [], rfl, Nat.le_refl _, rfl, by simp, fun x hx => (by cases hx), World.ownsRow_nil _ _ _ _, Below.refl _ _⟩
  case round =>
    obtain ⟨z, pre, rfl, hz, he, hl, hb, hO⟩ := hrel
    have HO := Lib.hid hO
    have HE := Lib.hid he
    have HB := Lib.hid hb
    clear hO he hb
    by_cases h1 : z < 128
    · have hlt : ¬ (z : Int) ≥ 128 := by omega
      have hcv : IntKind.u8.wrap (z : Int) = (z : Int) := by rw [IntKind.wrap_u8]; omega
      go_wp2_with (first
        | (at_builtin
           refine wpList_append_own _ rfl (.tmp 25) (.tmp 28) 45 rfl w.heap.size 5 i0 _ 1 1 Tryd.underlying45 hi hz0 hz1 hz2 rfl (by decide) u5 pre.length _ rfl (HO.out.row.alloc _) ⟨wr.heap.size, 0, none⟩ 1 1 [.int .u8 ((z : Nat) : Int)] rfl rfl (news_one (by first | rfl | simp | (simp; omega))) (by simp [Value.oneCell']) (by simp only [maxLen]; omega) (by omega) (by have := HO.out.below.size; simp; omega) ?_
           intro v2 W2 hown hgr _
           have O2 := Lib.hid hown
           have G2 := Lib.hid hgr
           clear hown hgr
           have P : OB w (pre ++ [z]) (pre.length + 1) v2 W2 := HO.out.push _ [z] O2.out rfl G2.out
           have hcv := P.conv (by simp) (by omega) (fun y hy => by
             rcases List.mem_append.1 hy with h | h
             · exact HB.out y h
             · simp at h; omega)
           have e : (⟨((pre ++ [z]).map UInt8.ofNat).toArray⟩ : ByteArray) = intS k := by rw [intS, HZ.out, HE.out, encZ_lt z h1]
           rw [e] at hcv
           have PB := Lib.hid P.below
           clear P e O2 G2)
        | fail)
      go_ret2
      exact ⟨rfl, PB.out⟩
    · have hge : (z : Int) ≥ 128 := by omega
      go_wp2_with (at_builtin; refine wpList_append_own _ rfl (.tmp 16) (.tmp 21) 45 rfl w.heap.size 5 i0 _ 1 1 Tryd.underlying45 hi hz0 hz1 hz2 rfl (by decide) u5 pre.length _ rfl (HO.out.row.alloc _) ⟨wr.heap.size, 0, none⟩ 1 1 [.int .u8 ((z % 128 + 128 : Nat) : Int)] rfl rfl (news_one (by first | rfl | simp | (simp; omega))) (by simp [Value.oneCell']) (by simp only [maxLen]; omega) (by omega) (by have := HO.out.below.size; simp; omega) ?_; intro v2 W2 hown hgr _; have O2 := Lib.hid hown; have G2 := Lib.hid hgr; clear hown hgr)
      have P : OB w (pre ++ [z % 128 + 128]) (pre.length + 1) v2 W2 := HO.out.push _ [z % 128 + 128] O2.out rfl G2.out
      have hz9 : z < 128 ^ 9 := Nat.lt_of_le_of_lt (show z ≤ 200000000 by omega) (by decide)
      have HE2 : encZ Z = (pre ++ [z % 128 + 128]) ++ encZ (z / 128) := by rw [HE.out, encZ_ge z h1 hz9]; simp
      have h5 : pre.length + 1 ≤ 10 := by
        have h6 := congrArg List.length HE2
        have h7 := encZ_len Z
        have h8 : 1 ≤ (encZ (z / 128)).length := by
          by_cases h : z / 128 < 128
          · rw [encZ_lt _ h]; simp
          · rw [encZ_ge _ h (by omega)]; simp
        simp only [List.length_append, List.length_singleton] at h6
        omega
      refine ⟨⟨z / 128, pre ++ [z % 128 + 128], by go_num, by omega, HE2, by simpa using h5, fun y hy => ?_, by simpa using P⟩, by simp [intOf]; omega⟩
      rcases List.mem_append.1 hy with h | h
      · exact HB.out y h
      · simp at h; omega

set_option maxHeartbeats 1000000 in
theorem PutStringR_any (s : ByteArray) (hs : s.size ≤ 65536) (w : World) :
    Calls Tryd.prog 43 #[.string s] w fun e w' => e = .returned (.tuple #[.string (putS s), .int .i64 0]) ∧ Below w.heap.size w w' := by
  have PI := Lib.hid (PutIntR_any s.size (by omega) w)
  have hb := intS_size s.size
  go_enter Tryd.func43, Tryd.ntmps43
  go_wp2_with (go_at_call 77; refine PI.out.mono ?_; rintro e w' ⟨rfl, hB⟩; have HB := Lib.hid hB; clear hB)
  go_ret2
  exact ⟨rfl, HB.out⟩
end Go.Proofs.YtljgphmdiflphaaDoor
