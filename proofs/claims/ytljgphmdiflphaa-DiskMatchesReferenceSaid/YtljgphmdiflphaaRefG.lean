/- The walks of step and of DiskMatchesReference. -/
import Derived.Test.YtljgphmdiflphaaRefE
namespace Go.Proofs.Ytljgphmdiflphaa
open Go.RowKit
set_option linter.unusedVariables false

/-- What a call of the sequence makes of both. -/
def stepD (n : Nat) (d : DV) (call x m : Int) (s : ByteArray) (keep : List Int) : DV :=
  if pickZ call 6 = 0 ∨ pickZ call 6 = 1 then wres n d x (takeB s 300) else if pickZ call 6 = 2 then sres d else if pickZ call 6 = 3 then d else if pickZ call 6 = 4 then cres d m else crashed d (keep.take 100) m
theorem stepD_pe (n : Nat) (d : DV) (call x m : Int) (s : ByteArray) (keep : List Int) : (stepD n d call x m s keep).pe.length ≤ d.pe.length + 1 := by
  unfold stepD wres sres cres
  split
  · split
    · omega
    · split
      · simp [writeD]
      · omega
  · split
    · split
      · omega
      · simp [syncD]
    · split
      · omega
      · split
        · split
          · omega
          · split
            · omega
            · simp [cutD]
        · simp [crashed]

/-- Numbers in a slice, or an empty slice. -/
theorem IntsAt.take {n₀ : Nat} {W : World} {a : Option Addr} {len cap : Nat} {zs : List Int} (h : IntsAt n₀ W (.slice a len cap) zs) (k : Nat) : IntsAt n₀ W (.slice a (min len k) cap) (zs.take k) := by
  rcases h with ⟨e, rfl⟩ | ⟨b, off, c, e, hb, hc⟩
  · obtain ⟨a0, c0, e⟩ := nilish_form e
    injection e with _ e1 _
    subst e1
    exact .inl ⟨by rw [Nat.zero_min]; rfl, by simp⟩
  · injection e with e0 e1 e2
    subst e0 e1
    refine .inr ⟨b, off, cap, by rw [List.length_take, Nat.min_comm], hb, fun j hj => ?_⟩
    rw [List.length_take] at hj
    rw [hc j (by omega), List.getElem?_take, if_pos (by omega)]

theorem IntsAt.more {n₀ n₁ : Nat} {W : World} {sv : Value} {zs : List Int} (h : IntsAt n₀ W sv zs) (hn : n₀ ≤ n₁) : IntsAt n₁ W sv zs := by
  rcases h with e | ⟨b, off, cap, e, hb, hc⟩
  · exact .inl e
  · exact .inr ⟨b, off, cap, e, by omega, hc⟩

set_option maxRecDepth 100000 in
set_option maxHeartbeats 3200000 in
theorem step_any {w wr : World} {bd bx n : Nat} {d : DV} {F G : Nat → Prop} (h : RR w wr bd bx n d d F G) (call x m : Int) (s : ByteArray) (ka : Option Addr) (kl kc : Nat) (keep : List Int)
    (hc0 : -9223372036854775808 ≤ call) (hc1 : call ≤ 9223372036854775807) (hx0 : -9223372036854775808 ≤ x) (hx1 : x ≤ 9223372036854775807) (hm0 : -9223372036854775808 ≤ m) (hm1 : m ≤ 9223372036854775807) (hs : s.size ≤ 9223372036854775807)
    (hI : IntsAt w.heap.size w (.slice ka kl kc) keep) (hkz : keep.length = kl) (hkl : kl ≤ kc) (hkc : kc ≤ 9223372036854775807) (hpe : d.pe.length ≤ 900000) :
    Calls Try.prog 19 #[.pointer (some ⟨bd, 0, none⟩), .pointer (some ⟨bx, 0, none⟩), .agg #[.int .i64 call, .int .i64 x, .int .i64 m, .string s, .slice ka kl kc]] wr fun r w' => r = .returned (.bool true) ∧
      ∃ F' G', RR w w' bd bx n (stepD n d call x m s keep) (stepD n d call x m s keep) F' G' := by
  have hp0 := pickZ_lo call 6 (by omega)
  have hp1 := pickZ_hi call 6 (by omega)
  obtain ⟨p, hp⟩ : ∃ p : Int, pickZ call 6 = p := ⟨_, rfl⟩
  rw [hp] at hp0 hp1
  have HP := Lib.hid hp
  have H := Lib.hid (h.keep ((Below.refl _ wr).alloc (Nat.le_refl _) (.cells #[.int .i64 call, .int .i64 x, .int .i64 m, .string s, .slice ka kl kc] 39)))
  have n1 : ¬ F wr.heap.size := fun f => absurd (h.kd.lt f) (by omega)
  have n2 : ¬ G wr.heap.size := fun f => absurd (h.kr.lt f) (by omega)
  have X := Lib.hid (show (wr.alloc (.cells #[.int .i64 call, .int .i64 x, .int .i64 m, .string s, .slice ka kl kc] 39)).heap[wr.heap.size]? = some (.cells #[.int .i64 call, .int .i64 x, .int .i64 m, .string s, .slice ka kl kc] 39 (0, 0)) from allocAt _ rfl)
  have HI := Lib.hid hI
  clear h hp hI
  go_enter Try.func19, Try.ntmps19
  go_wp2_with fail
  refine (pick_any call 6 _ (by omega) (by omega) hc0 hc1).mono ?_
  rintro r w' ⟨rfl, rfl⟩
  rw [HP.out]
  have hcs : p = 0 ∨ p = 1 ∨ p = 2 ∨ p = 3 ∨ p = 4 ∨ p = 5 := by omega
  rcases hcs with rfl | rfl | rfl | rfl | rfl | rfl
  · -- a write
    have hst : stepD n d call x m s keep = wres n d x (takeB s 300) := by unfold stepD; rw [HP.out]; simp
    have HST := Lib.hid hst
    have hts : (takeB s 300).size ≤ 9223372036854775807 := by rw [takeB_size]; omega
    have J1 := Lib.hid (H.out.drew.dWrite x (takeB s 300) hts hx0 (by omega) X.out n1 n2)
    have b1 : (wr.alloc (.cells #[.int .i64 call, .int .i64 x, .int .i64 m, .string s, .slice ka kl kc] 39)).cell? ⟨wr.heap.size, 1, none⟩ = some (.int .i64 x) := cellOf X.out 1
    have b3 : (wr.alloc (.cells #[.int .i64 call, .int .i64 x, .int .i64 m, .string s, .slice ka kl kc] 39)).cell? ⟨wr.heap.size, 3, none⟩ = some (.string s) := cellOf X.out 3
    clear hst
    go_wp2_with fail
    refine (cut_any s 300 _ hs (by decide)).mono ?_
    rintro r w' ⟨rfl, rfl⟩
    go_wp2_with fail
    go_region_held3 (fun w' => w'.cell? ⟨wr.heap.size, 1, none⟩ = some (.int .i64 x))
      (first | exact b1 | exact z1 | exact y1 | go_keep)
      (first
        | (go_at_call 30
           with_reducible refine Calls.mono J2.out ?_
           rintro r w2 ⟨rfl, G2, h2, m2⟩
           have HB2 := Lib.hid h2
           have z1 : w2.cell? ⟨wr.heap.size, 1, none⟩ = some (.int .i64 x) := cellOf (stay m2 X1.out N1.out).1 1
           clear h2 m2)
        | (go_at_call 21
           with_reducible refine Calls.mono J1.out ?_
           rintro r w1 ⟨rfl, F1, h1, x1, _, nG1⟩
           have HB1 := Lib.hid h1
           have X1 := Lib.hid x1
           have N1 := Lib.hid nG1
           have y1 : w1.cell? ⟨wr.heap.size, 1, none⟩ = some (.int .i64 x) := cellOf X1.out 1
           have J2 := Lib.hid (HB1.out.rWrite x (takeB s 300) hts hx0 hx1 (by omega))
           clear h1 x1 nG1))
    go_wp2_with fail
    go_ret
    rw [HST.out]
    exact ⟨by simp, F1, G2, HB2.out⟩
  · -- a write
    have hst : stepD n d call x m s keep = wres n d x (takeB s 300) := by unfold stepD; rw [HP.out]; simp
    have HST := Lib.hid hst
    have hts : (takeB s 300).size ≤ 9223372036854775807 := by rw [takeB_size]; omega
    have J1 := Lib.hid (H.out.drew.dWrite x (takeB s 300) hts hx0 (by omega) X.out n1 n2)
    have b1 : (wr.alloc (.cells #[.int .i64 call, .int .i64 x, .int .i64 m, .string s, .slice ka kl kc] 39)).cell? ⟨wr.heap.size, 1, none⟩ = some (.int .i64 x) := cellOf X.out 1
    have b3 : (wr.alloc (.cells #[.int .i64 call, .int .i64 x, .int .i64 m, .string s, .slice ka kl kc] 39)).cell? ⟨wr.heap.size, 3, none⟩ = some (.string s) := cellOf X.out 3
    clear hst
    go_wp2_with fail
    refine (cut_any s 300 _ hs (by decide)).mono ?_
    rintro r w' ⟨rfl, rfl⟩
    go_wp2_with fail
    go_region_held3 (fun w' => w'.cell? ⟨wr.heap.size, 1, none⟩ = some (.int .i64 x))
      (first | exact b1 | exact z1 | exact y1 | go_keep)
      (first
        | (go_at_call 30
           with_reducible refine Calls.mono J2.out ?_
           rintro r w2 ⟨rfl, G2, h2, m2⟩
           have HB2 := Lib.hid h2
           have z1 : w2.cell? ⟨wr.heap.size, 1, none⟩ = some (.int .i64 x) := cellOf (stay m2 X1.out N1.out).1 1
           clear h2 m2)
        | (go_at_call 21
           with_reducible refine Calls.mono J1.out ?_
           rintro r w1 ⟨rfl, F1, h1, x1, _, nG1⟩
           have HB1 := Lib.hid h1
           have X1 := Lib.hid x1
           have N1 := Lib.hid nG1
           have y1 : w1.cell? ⟨wr.heap.size, 1, none⟩ = some (.int .i64 x) := cellOf X1.out 1
           have J2 := Lib.hid (HB1.out.rWrite x (takeB s 300) hts hx0 hx1 (by omega))
           clear h1 x1 nG1))
    go_wp2_with fail
    go_ret
    rw [HST.out]
    exact ⟨by simp, F1, G2, HB2.out⟩
  · -- a sync
    have hst : stepD n d call x m s keep = sres d := by unfold stepD; rw [HP.out]; simp
    have HST := Lib.hid hst
    clear hst
    go_wp2_with fail
    refine (H.out.dSync).mono ?_
    rintro r w1 ⟨rfl, F1, h1⟩
    have HB1 := Lib.hid h1
    clear h1
    go_wp2_with fail
    refine (HB1.out.rSync).mono ?_
    rintro r w2 ⟨rfl, G2, h2⟩
    have HB2 := Lib.hid h2
    clear h2
    go_wp2_with fail
    go_ret
    rw [HST.out]
    exact ⟨by simp, F1, G2, HB2.out⟩
  · -- a read
    have hst : stepD n d call x m s keep = d := by unfold stepD; rw [HP.out]; simp
    have HST := Lib.hid hst
    clear hst
    have b1 : (wr.alloc (.cells #[.int .i64 call, .int .i64 x, .int .i64 m, .string s, .slice ka kl kc] 39)).cell? ⟨wr.heap.size, 1, none⟩ = some (.int .i64 x) := cellOf X.out 1
    have b2 : (wr.alloc (.cells #[.int .i64 call, .int .i64 x, .int .i64 m, .string s, .slice ka kl kc] 39)).cell? ⟨wr.heap.size, 2, none⟩ = some (.int .i64 m) := cellOf X.out 2
    go_wp2_with fail
    refine (H.out.dRead x m hx0 hm0).mono ?_
    rintro r w' ⟨rfl, rfl⟩
    go_wp2_with fail
    refine (H.out.rRead x m hx0 hx1 hm0).mono ?_
    rintro r w2 ⟨rfl, h2⟩
    have HB2 := Lib.hid h2
    clear h2
    go_wp2_with fail
    all_goals go_ret
    all_goals (rw [HST.out]; exact ⟨by simp, F, G, HB2.out⟩)
  · -- a cut
    have hst : stepD n d call x m s keep = cres d m := by unfold stepD; rw [HP.out]; simp
    have HST := Lib.hid hst
    have J1 := Lib.hid (H.out.drew.dCut m hm1 X.out n1)
    have b2 : (wr.alloc (.cells #[.int .i64 call, .int .i64 x, .int .i64 m, .string s, .slice ka kl kc] 39)).cell? ⟨wr.heap.size, 2, none⟩ = some (.int .i64 m) := cellOf X.out 2
    clear hst
    go_wp2_with fail
    go_region_held3 (fun w' => w'.cell? ⟨wr.heap.size, 2, none⟩ = some (.int .i64 m))
      (first | exact b2 | exact z1 | exact y1 | go_keep)
      (first
        | (go_at_call 32
           with_reducible refine Calls.mono J2.out ?_
           rintro r w2 ⟨rfl, G2, h2, m2⟩
           have HB2 := Lib.hid h2
           have z1 : w2.cell? ⟨wr.heap.size, 2, none⟩ = some (.int .i64 m) := cellOf (stay m2 X1.out n2).1 2
           clear h2 m2)
        | (go_at_call 24
           with_reducible refine Calls.mono J1.out ?_
           rintro r w1 ⟨rfl, F1, h1, x1⟩
           have HB1 := Lib.hid h1
           have X1 := Lib.hid x1
           have y1 : w1.cell? ⟨wr.heap.size, 2, none⟩ = some (.int .i64 m) := cellOf X1.out 2
           have J2 := Lib.hid (HB1.out.rCut m hm1)
           clear h1 x1))
    go_wp2_with fail
    go_ret
    rw [HST.out]
    exact ⟨by simp, F1, G2, HB2.out⟩
  · -- a crash
    have hst : stepD n d call x m s keep = crashed d (keep.take 100) m := by unfold stepD; rw [HP.out]; simp
    have HST := Lib.hid hst
    clear hst
    have b2 : (wr.alloc (.cells #[.int .i64 call, .int .i64 x, .int .i64 m, .string s, .slice ka kl kc] 39)).cell? ⟨wr.heap.size, 2, none⟩ = some (.int .i64 m) := cellOf X.out 2
    have b4 : (wr.alloc (.cells #[.int .i64 call, .int .i64 x, .int .i64 m, .string s, .slice ka kl kc] 39)).cell? ⟨wr.heap.size, 4, none⟩ = some (.slice ka kl kc) := cellOf X.out 4
    have hIA : ∀ W : World, Below w.heap.size w W → IntsAt W.heap.size W (.slice ka (min (kl : Int) 100).toNat kc) (keep.take 100) := fun W hW => by
      have h1 := (((HI.out.below hW).more hW.size).take 100)
      rw [show (min (kl : Int) 100).toNat = min kl 100 by omega]
      exact h1
    have HIA := Lib.hid hIA
    have hkt : (keep.take 100).length ≤ 100000000 := by rw [List.length_take]; omega
    clear hIA
    go_wp2_with fail
    refine (H.out.rCrash (keep.take 100) ka _ kc (HIA.out _ H.out.below) hkt (by omega) m hm0 hm1).mono ?_
    rintro r w1 ⟨rfl, G1, h1, m1⟩
    have HB1 := Lib.hid h1
    have z2 : w1.cell? ⟨wr.heap.size, 2, none⟩ = some (.int .i64 m) := cellOf (stay m1 X.out n2).1 2
    clear h1 m1 b2 b4
    go_wp2_with fail
    refine (HB1.out.dCrash (keep.take 100) ka _ kc (HIA.out _ HB1.out.below) hkt (by omega) m hm0 hm1).mono ?_
    rintro r w2 ⟨rfl, F2, h2⟩
    have HB2 := Lib.hid h2
    clear h2
    go_wp2_with fail
    go_ret
    rw [HST.out]
    exact ⟨rfl, F2, G1, HB2.out⟩
end Go.Proofs.Ytljgphmdiflphaa
