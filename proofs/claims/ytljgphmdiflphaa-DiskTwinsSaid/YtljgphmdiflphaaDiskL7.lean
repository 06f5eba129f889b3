/- The walk of DiskTwins. -/
import Derived.Test.YtljgphmdiflphaaDiskW
namespace Go.Proofs.Ytljgphmdiflphaa
open Go.RowKit
set_option linter.unusedVariables false
set_option linter.unusedSimpArgs false

/-- Three disks, all apart. -/
structure R3 (w wr : World) (n b1 b2 b3 : Nat) (d1 d2 d3 : DV) (F1 F2 F3 : Nat → Prop) : Prop where
  k1 : DiskF wr b1 n d1 F1
  k2 : DiskF wr b2 n d2 F2
  k3 : DiskF wr b3 n d3 F3
  a12 : ∀ i, F1 i → ¬ F2 i
  a13 : ∀ i, F1 i → ¬ F3 i
  a23 : ∀ i, F2 i → ¬ F3 i
  p1 : ∀ i, F1 i → w.heap.size ≤ i
  p2 : ∀ i, F2 i → w.heap.size ≤ i
  p3 : ∀ i, F3 i → w.heap.size ≤ i
  below : Below w.heap.size w wr
section
variable {w wr wr' : World} {n b1 b2 b3 : Nat} {d1 d2 d3 : DV} {F1 F2 F3 : Nat → Prop}
theorem R3.rot (h : R3 w wr n b1 b2 b3 d1 d2 d3 F1 F2 F3) : R3 w wr n b2 b3 b1 d2 d3 d1 F2 F3 F1 :=
  ⟨h.k2, h.k3, h.k1, h.a23, fun i a b => h.a12 i b a, fun i a b => h.a13 i b a, h.p2, h.p3, h.p1, h.below⟩
theorem R3.keep (h : R3 w wr n b1 b2 b3 d1 d2 d3 F1 F2 F3) (hB : Below wr.heap.size wr wr') : R3 w wr' n b1 b2 b3 d1 d2 d3 F1 F2 F3 :=
  have hU : Upd (fun _ => False) wr wr' := Upd.of_below hB
  ⟨h.k1.upd hU (fun _ _ f => f), h.k2.upd hU (fun _ _ f => f), h.k3.upd hU (fun _ _ f => f), h.a12, h.a13, h.a23, h.p1, h.p2, h.p3, h.below.trans (hB.mono h.below.size)⟩
theorem R3.drew (h : R3 w wr n b1 b2 b3 d1 d2 d3 F1 F2 F3) : R3 w wr.drew n b1 b2 b3 d1 d2 d3 F1 F2 F3 := h.keep (Below.refl _ wr).drew
theorem R3.move (h : R3 w wr n b1 b2 b3 d1 d2 d3 F1 F2 F3) {d' : DV} {F' : Nat → Prop} (hk : DiskF wr' b1 n d' F') (hM : Moves F1 F' wr wr') : R3 w wr' n b1 b2 b3 d' d2 d3 F' F2 F3 := by
  obtain ⟨h1, h2⟩ := hM.base h.p1 h.below.size
  refine ⟨hk, h.k2.upd hM.1 (fun i a b => h.a12 i b a), h.k3.upd hM.1 (fun i a b => h.a13 i b a), fun i a b => ?_, fun i a b => ?_, h.a23, h1, h.p2, h.p3, h.below.trans h2⟩
  · rcases hM.2 i a with e | e
    · exact h.a12 i e b
    · have := h.k2.lt b; omega
  · rcases hM.2 i a with e | e
    · exact h.a13 i e b
    · have := h.k3.lt b; omega
end

section
variable {w wr : World} {n b1 b2 b3 : Nat} {d1 d2 d3 : DV} {F1 F2 F3 : Nat → Prop} {B : Nat} {o : Obj}
theorem R3.write1 (h : R3 w wr n b1 b2 b3 d1 d2 d3 F1 F2 F3) (ho : d1.off = false) (q : Nat) (s : ByteArray) (hs : q + s.size ≤ n) (hl : d1.pe.length ≤ 1000000) (hx : wr.heap[B]? = some o) (nB : ¬ F1 B) :
    Calls Try.prog 21 #[.pointer (some ⟨b1, 0, none⟩), .int .i64 (q : Int), .string s] wr fun e w' => e = .returned (.int .i64 0) ∧
      ∃ F', R3 w w' n b1 b2 b3 (writeD d1 q s) d2 d3 F' F2 F3 ∧ w'.heap[B]? = some o ∧ ¬ F' B := by
  refine (writeF h.k1 ho q s hs hl).mono ?_
  rintro e w' ⟨rfl, F', d, m⟩
  refine ⟨rfl, F', h.move d m, m.1.at hx nB, fun f => ?_⟩
  rcases m.2 _ f with f | f
  · exact nB f
  · have := ltOf hx; omega
theorem R3.sync1 (h : R3 w wr n b1 b2 b3 d1 d2 d3 F1 F2 F3) (ho : d1.off = false) (hx : wr.heap[B]? = some o) (nB : ¬ F1 B) :
    Calls Try.prog 23 #[.pointer (some ⟨b1, 0, none⟩)] wr fun e w' => e = .returned (.int .i64 0) ∧
      ∃ F', R3 w w' n b1 b2 b3 (syncD d1) d2 d3 F' F2 F3 ∧ w'.heap[B]? = some o ∧ ¬ F' B := by
  refine (syncF h.k1 ho).mono ?_
  rintro e w' ⟨rfl, F', d, m⟩
  refine ⟨rfl, F', h.move d m, m.1.at hx nB, fun f => ?_⟩
  rcases m.2 _ f with f | f
  · exact nB f
  · have := ltOf hx; omega
theorem R3.crash1 (h : R3 w wr n b1 b2 b3 d1 d2 d3 F1 F2 F3) (hm : d1.pe.length ≤ 2000000) (torn : Int) (ht0 : -9223372036854775808 ≤ torn) (ht1 : torn ≤ 9223372036854775807) (hx : wr.heap[B]? = some o) (nB : ¬ F1 B) :
    Calls Try.prog 25 #[.pointer (some ⟨b1, 0, none⟩), .slice none 0 0, .int .i64 torn] wr fun e w' => e = .returned (.int .i64 0) ∧
      ∃ F', R3 w w' n b1 b2 b3 (crashed d1 [] torn) d2 d3 F' F2 F3 ∧ w'.heap[B]? = some o ∧ ¬ F' B := by
  refine (crashF h.k1 [] none 0 0 (.inl ⟨rfl, rfl⟩) (by simp) hm torn ht0 ht1).mono ?_
  rintro e w' ⟨rfl, F', d, m⟩
  refine ⟨rfl, F', h.move d m, m.1.at hx nB, fun f => ?_⟩
  rcases m.2 _ f with f | f
  · exact nB f
  · have := ltOf hx; omega
end

/-- Power, no cut, at most k pending writes. -/
def Easy (d : DV) (k : Nat) : Prop := d.off = false ∧ d.left = 0 ∧ d.pe.length ≤ k
theorem Easy.write {d : DV} {k : Nat} (h : Easy d k) (q : Nat) (s : ByteArray) : Easy (writeD d q s) (k + 1) :=
  ⟨by simp [writeD, usedOff, h.2.1], by simp [writeD, usedLeft, h.2.1], by simp [writeD]; exact h.2.2⟩
theorem Easy.sync {d : DV} {k : Nat} (h : Easy d k) : Easy (syncD d) k := ⟨h.1, h.2.1, Nat.zero_le _⟩
theorem Easy.up {d : DV} {k m : Nat} (h : Easy d k) (hm : k ≤ m) : Easy d m := ⟨h.1, h.2.1, Nat.le_trans h.2.2 hm⟩
theorem Easy.crash (d : DV) (k : Nat) (keep : List Int) (torn : Int) : Easy (crashed d keep torn) k := ⟨rfl, rfl, Nat.zero_le _⟩

set_option maxRecDepth 100000 in
set_option maxHeartbeats 3200000 in
theorem twins_walk (size : Int) (a : Option Addr) (len cap : Nat) (zs : List (Int × ByteArray × Bool)) (w : World) (hs0 : -9223372036854775808 ≤ size) (hs1 : size ≤ 9223372036854775807) (hlen : len ≤ cap) (hcap : cap ≤ 9223372036854775807)
    (hz : zs.length = len) (hrow : WRow w w.heap.size a zs) :
    Calls Try.prog 11 #[.int .i64 size, .slice a len cap] w fun e w' => e = .returned (.bool true) ∧ Below w.heap.size w w' := by
  have hp0 := pickZ_lo size 100 (by omega)
  have hp1 := pickZ_hi size 100 (by omega)
  obtain ⟨p, hp⟩ : ∃ p : Nat, pickZ size 100 = p := Int.eq_ofNat_of_zero_le hp0
  have hpn : p < 100 := by omega
  have HP := Lib.hid hp
  have HZ := Lib.hid hz
  have HROW := Lib.hid hrow
  clear hp0 hp1 hp hz hrow
  obtain ⟨n, hn⟩ : ∃ n : Nat, 1 + p = n := ⟨_, rfl⟩
  have hn1 : 1 ≤ n := by omega
  have hn2 : n ≤ 100 := by omega
  have HN := Lib.hid hn
  clear hn
  go_enter Try.func11, Try.ntmps11
  go_wp2_with fail
  refine (sane_any w).mono ?_
  rintro e w1 ⟨rfl, b1⟩
  have B1 := Lib.hid b1
  clear b1
  go_wp2_with fail
  refine (pick_any size 100 w1 (by omega) (by omega) hs0 hs1).mono ?_
  rintro e w' ⟨rfl, rfl⟩
  rw [HP.out]
  go_wp2_with fail
  rw [show (1 + (p : Int)) = (n : Int) from by have := HN.out; omega]
  refine (newF w1 n hn1 (by omega)).mono ?_
  rintro e w2 ⟨c1, rfl, ⟨F1, g1, f1⟩, b2⟩
  have G1 := Lib.hid g1
  have P1 := Lib.hid f1
  have B2 := Lib.hid b2
  clear g1 f1 b2
  go_wp2_with fail
  refine (newF w2 n hn1 (by omega)).mono ?_
  rintro e w3 ⟨c2, rfl, ⟨F2, g2, f2⟩, b3⟩
  have G2 := Lib.hid g2
  have P2 := Lib.hid f2
  have B3 := Lib.hid b3
  clear g2 f2 b3
  go_wp2_with fail
  refine (newF w3 n hn1 (by omega)).mono ?_
  rintro e w4 ⟨c3, rfl, ⟨F3, g3, f3⟩, b4⟩
  have hR : R3 w w4 n c1 c2 c3 (newD n) (newD n) (newD n) F1 F2 F3 := by
    have l1 : ∀ i, F1 i → i < w2.heap.size := fun i f => G1.out.lt f
    have l2 : ∀ i, F2 i → i < w3.heap.size := fun i f => G2.out.lt f
    have s1 := B1.out.size
    have s2 := B2.out.size
    have s3 := B3.out.size
    have s4 := b4.size
    refine ⟨(G1.out.upd (Upd.of_below (S := fun _ => False) B3.out) (fun _ _ f => f)).upd (Upd.of_below (S := fun _ => False) b4) (fun _ _ f => f), G2.out.upd (Upd.of_below (S := fun _ => False) b4) (fun _ _ f => f), g3,
      fun i a b => ?_, fun i a b => ?_, fun i a b => ?_, fun i a => ?_, fun i a => ?_, fun i a => ?_, B1.out.trans ((B2.out.mono s1).trans ((B3.out.mono (by omega)).trans (b4.mono (by omega))))⟩
    · have := l1 i a; have := P2.out i b; omega
    · have := l1 i a; have := f3 i b; omega
    · have := l2 i a; have := f3 i b; omega
    · have := P1.out i a; omega
    · have := P2.out i a; omega
    · have := f3 i a; omega
  have HR := Lib.hid hR
  clear hR g3 f3 b4
  go_wp2_with fail
  go_loopw [12] (fun vi wr => ∃ (k : Nat) (d1 d2 : DV) (F1 F2 F3 : Nat → Prop), k ≤ len ∧ k ≤ 30 ∧ vi = .int .i64 k ∧ Hid (Easy d1 k) ∧ Hid (Easy d2 k) ∧ Hid (R3 w wr n c1 c2 c3 d1 d2 d1 F1 F2 F3)) (fun vi _ => len - (intOf vi).toNat)
  case atStart => exact ⟨0, newD n, newD n, F1, F2, F3, by omega, by omega, rfl, ⟨rfl, rfl, Nat.le_refl _⟩, ⟨rfl, rfl, Nat.le_refl _⟩, HR.out⟩
  case round =>
    obtain ⟨k, d1, d2, E1, E2, E3, hk, hk60, rfl, hy1, hy2, hB⟩ := hrel
    by_cases hlt : k < len ∧ k < 30
    · obtain ⟨hlt, hlt60⟩ := hlt
      have hkz : k < zs.length := by rw [HZ.out]; exact hlt
      have hrw := HROW.out.below hB.out.below
      obtain ⟨g, off, ha, hg, c0, c1', c2'⟩ := hrw.cell k hkz
      obtain ⟨f0, f1, f2⟩ := hrw.fit k hkz
      subst ha
      generalize zs[k] = z at *
      obtain ⟨x, s, b⟩ := z
      simp only at c0 c1' c2' f0 f1 f2
      clear hrw hkz
      go_wp2_with fail
      refine (fits_any x s b n wr f0 f1 f2 (by omega)).mono ?_
      rintro e w5 ⟨q, rfl, hq, hqn, b5⟩
      have HB5 := Lib.hid (hB.out.keep b5)
      clear hB hq b5 c0 c1' c2'
      have hs' : q + (takeB s (n - q)).size ≤ n := by have := takeB_fit s (n - q); omega
      generalize takeB s (n - q) = s' at hs' ⊢
      have HB6 := Lib.hid (HB5.out.keep ((Below.refl _ w5).alloc (Nat.le_refl _) (.cells #[.int .i64 (q : Int), .string s', .bool b] 53)))
      have n1 : ¬ E1 w5.heap.size := fun f => absurd (HB5.out.k1.lt f) (by omega)
      have n2 : ¬ E2 w5.heap.size := fun f => absurd (HB5.out.k2.lt f) (by omega)
      have n3 : ¬ E3 w5.heap.size := fun f => absurd (HB5.out.k3.lt f) (by omega)
      have e0 : (w5.alloc (.cells #[.int .i64 (q : Int), .string s', .bool b] 53)).heap[w5.heap.size]? = some (.cells #[.int .i64 (q : Int), .string s', .bool b] 53 (0, 0)) := allocAt _ rfl
      have X6 := Lib.hid e0
      clear e0
      by_cases hodd : (k : Int) % 2 = 1
      · have hbo : ((k : Int) % 2 == 1) = true := by simpa using hodd
        have O2 := Lib.hid hy2.out.1
        have O2' := Lib.hid (hy2.out.write q s').1
        have P2' := Lib.hid (show d2.pe.length ≤ 1000000 by have := hy2.out.2.2; omega)
        have P3' := Lib.hid (show (writeD d2 q s').pe.length ≤ 2000000 by have := (hy2.out.write q s').2.2; omega)
        go_wp2_with fail
        refine (HB6.out.rot.write1 O2.out q s' hs' P2'.out X6.out n2).mono ?_
        rintro e w7 ⟨rfl, F7, h7, x7, nb7⟩
        have HB7 := Lib.hid h7
        have X7 := Lib.hid x7
        have N7 := Lib.hid nb7
        have y0 : w7.cell? ⟨w5.heap.size, 0, none⟩ = some (.int .i64 (q : Int)) := cellOf X7.out 0
        have y2 : w7.cell? ⟨w5.heap.size, 2, none⟩ = some (.bool b) := cellOf X7.out 2
        clear h7 x7 nb7
        by_cases h7 : (q : Int) % 7 = 3
        · have hb7 : ((q : Int) % 7 == 3) = true := by simpa using h7
          cases b with
          | true =>
            go_wp2_with fail
            refine (HB7.out.sync1 O2'.out X7.out N7.out).mono ?_
            rintro e w8 ⟨rfl, F8, h8, x8, nb8⟩
            have HB8 := Lib.hid h8
            have X8 := Lib.hid x8
            have N8 := Lib.hid nb8
            have z0 : w8.cell? ⟨w5.heap.size, 0, none⟩ = some (.int .i64 (q : Int)) := cellOf X8.out 0
            clear h8 x8 nb8 y0 y2
            go_wp2_with fail
            refine (HB8.out.crash1 (Nat.zero_le _) 1 (by omega) (by omega) X8.out N8.out).mono ?_
            rintro e w9 ⟨rfl, F9, h9, x9, nb9⟩
            have HB9 := Lib.hid h9
            clear h9 x9 nb9 z0
            go_wp2_with fail
            go_roundw
            case rel => exact ⟨k + 1, _, _, _, _, _, by omega, by omega, by simp, hy1.out.up (by omega), Easy.crash _ _ _ _, HB9.out.rot.rot⟩
            case measure => simp [intOf]; omega
          | false =>
            go_wp2_with fail
            refine (HB7.out.crash1 P3'.out 1 (by omega) (by omega) X7.out N7.out).mono ?_
            rintro e w9 ⟨rfl, F9, h9, x9, nb9⟩
            have HB9 := Lib.hid h9
            clear h9 x9 nb9 y0 y2
            go_wp2_with fail
            go_roundw
            case rel => exact ⟨k + 1, _, _, _, _, _, by omega, by omega, by simp, hy1.out.up (by omega), Easy.crash _ _ _ _, HB9.out.rot.rot⟩
            case measure => simp [intOf]; omega
        · have hb7 : ((q : Int) % 7 == 3) = false := by simpa using h7
          cases b with
          | true =>
            go_wp2_with fail
            refine (HB7.out.sync1 O2'.out X7.out N7.out).mono ?_
            rintro e w8 ⟨rfl, F8, h8, x8, nb8⟩
            have HB8 := Lib.hid h8
            have X8 := Lib.hid x8
            have z0 : w8.cell? ⟨w5.heap.size, 0, none⟩ = some (.int .i64 (q : Int)) := cellOf X8.out 0
            clear h8 x8 nb8 y0 y2
            go_wp2_with fail
            go_roundw
            case rel => exact ⟨k + 1, _, _, _, _, _, by omega, by omega, by simp, hy1.out.up (by omega), (hy2.out.write q s').sync, HB8.out.rot.rot⟩
            case measure => simp [intOf]; omega
          | false =>
            go_wp2_with fail
            go_roundw
            case rel => exact ⟨k + 1, _, _, _, _, _, by omega, by omega, by simp, hy1.out.up (by omega), (hy2.out.write q s'), HB7.out.rot.rot⟩
            case measure => simp [intOf]; omega
      · have hbo : ((k : Int) % 2 == 1) = false := by simpa using hodd
        have t0 : (w5.alloc (.cells #[.int .i64 (q : Int), .string s', .bool b] 53)).cell? ⟨w5.heap.size, 0, none⟩ = some (.int .i64 (q : Int)) := cellOf X6.out 0
        have t1 : (w5.alloc (.cells #[.int .i64 (q : Int), .string s', .bool b] 53)).cell? ⟨w5.heap.size, 1, none⟩ = some (.string s') := cellOf X6.out 1
        have t2 : (w5.alloc (.cells #[.int .i64 (q : Int), .string s', .bool b] 53)).cell? ⟨w5.heap.size, 2, none⟩ = some (.bool b) := cellOf X6.out 2
        have O1 := Lib.hid hy1.out.1
        have O1' := Lib.hid (hy1.out.write q s').1
        have P1' := Lib.hid (show d1.pe.length ≤ 1000000 by have := hy1.out.2.2; omega)
        have J1 := Lib.hid (HB6.out.drew.write1 O1.out q s' hs' P1'.out X6.out n1)
        cases b with
        | true =>
          go_wp2_with fail
          refine wp_region_held_drew (S := (fun w' => w'.cell? ⟨w5.heap.size, 0, none⟩ = some (.int .i64 (q : Int)) ∧ w'.cell? ⟨w5.heap.size, 1, none⟩ = some (.string s') ∧ w'.cell? ⟨w5.heap.size, 2, none⟩ = some (.bool true))) (by kernel_rfl) ⟨t0, t1, t2⟩ (fun hHeld => ?_)
          refine wpAnyH_take (i := 0) (oi := { dst := some 93, op := Op.move (Operand.tmp 6), type := 23, pos := "law.go:302", after := #[], guard := none }) (v := ?_) rfl (by kernel_rfl) (by kernel_rfl) (by kernel_rfl) (fun _ _ _ h => h) (Or.inl ⟨by kernel_rfl, ?_⟩) hHeld ?_
          rotate_left
          · (intro w hSw; (try dsimp only at hSw); go_simp; all_goals (with_reducible rfl))
          try simp only [Act.put, List.setIfInBounds_toArray, List.set_cons_zero, List.set_cons_succ]
          refine wpAnyH_take (i := 1) (oi := { dst := some 94, op := Op.fieldAddr 53 (Operand.tmp 13) 0, type := 0, pos := "law.go:302", after := #[], guard := none }) (v := ?_) rfl (by kernel_rfl) (by kernel_rfl) (by kernel_rfl) (fun _ _ _ h => h) (Or.inl ⟨by kernel_rfl, ?_⟩) hHeld ?_
          rotate_left
          · (intro w hSw; (try dsimp only at hSw); go_simp; all_goals (with_reducible rfl))
          try simp only [Act.put, List.setIfInBounds_toArray, List.set_cons_zero, List.set_cons_succ]
          refine wpAnyH_take (i := 2) (oi := { dst := some 95, op := Op.load 3 (Operand.tmp 94), type := 3, pos := "law.go:302", after := #[{ on := 1, ground := Ground.data }], guard := none }) (v := ?_) rfl (by kernel_rfl) (by kernel_rfl) (by kernel_rfl) (fun _ _ _ h => h) (Or.inl ⟨by kernel_rfl, ?_⟩) hHeld ?_
          rotate_left
          · (intro w hSw; (try dsimp only at hSw); go_simp; all_goals (with_reducible rfl))
          try simp only [Act.put, List.setIfInBounds_toArray, List.set_cons_zero, List.set_cons_succ]
          refine wpAnyH_take (i := 3) (oi := { dst := some 96, op := Op.fieldAddr 53 (Operand.tmp 13) 1, type := 0, pos := "law.go:302", after := #[], guard := none }) (v := ?_) rfl (by kernel_rfl) (by kernel_rfl) (by kernel_rfl) (fun _ _ _ h => h) (Or.inl ⟨by kernel_rfl, ?_⟩) hHeld ?_
          rotate_left
          · (intro w hSw; (try dsimp only at hSw); go_simp; all_goals (with_reducible rfl))
          try simp only [Act.put, List.setIfInBounds_toArray, List.set_cons_zero, List.set_cons_succ]
          refine wpAnyH_take (i := 4) (oi := { dst := some 97, op := Op.load 9 (Operand.tmp 96), type := 9, pos := "law.go:302", after := #[{ on := 3, ground := Ground.data }], guard := none }) (v := ?_) rfl (by kernel_rfl) (by kernel_rfl) (by kernel_rfl) (fun _ _ _ h => h) (Or.inl ⟨by kernel_rfl, ?_⟩) hHeld ?_
          rotate_left
          · (intro w hSw; (try dsimp only at hSw); go_simp; all_goals (with_reducible rfl))
          try simp only [Act.put, List.setIfInBounds_toArray, List.set_cons_zero, List.set_cons_succ]
          refine wpAnyH_take (i := 6) (oi := { dst := some 99, op := Op.move (Operand.tmp 10), type := 23, pos := "law.go:302", after := #[], guard := none }) (v := ?_) rfl (by kernel_rfl) (by kernel_rfl) (by kernel_rfl) (fun _ _ _ h => h) (Or.inl ⟨by kernel_rfl, ?_⟩) hHeld ?_
          rotate_left
          · (intro w hSw; (try dsimp only at hSw); go_simp; all_goals (with_reducible rfl))
          try simp only [Act.put, List.setIfInBounds_toArray, List.set_cons_zero, List.set_cons_succ]
          refine wpAnyH_take (i := 7) (oi := { dst := some 100, op := Op.fieldAddr 53 (Operand.tmp 13) 0, type := 0, pos := "law.go:302", after := #[], guard := none }) (v := ?_) rfl (by kernel_rfl) (by kernel_rfl) (by kernel_rfl) (fun _ _ _ h => h) (Or.inl ⟨by kernel_rfl, ?_⟩) hHeld ?_
          rotate_left
          · (intro w hSw; (try dsimp only at hSw); go_simp; all_goals (with_reducible rfl))
          try simp only [Act.put, List.setIfInBounds_toArray, List.set_cons_zero, List.set_cons_succ]
          refine wpAnyH_take (i := 8) (oi := { dst := some 101, op := Op.load 3 (Operand.tmp 100), type := 3, pos := "law.go:302", after := #[{ on := 7, ground := Ground.data }], guard := none }) (v := ?_) rfl (by kernel_rfl) (by kernel_rfl) (by kernel_rfl) (fun _ _ _ h => h) (Or.inl ⟨by kernel_rfl, ?_⟩) hHeld ?_
          rotate_left
          · (intro w hSw; (try dsimp only at hSw); go_simp; all_goals (with_reducible rfl))
          try simp only [Act.put, List.setIfInBounds_toArray, List.set_cons_zero, List.set_cons_succ]
          refine wpAnyH_take (i := 9) (oi := { dst := some 102, op := Op.fieldAddr 53 (Operand.tmp 13) 1, type := 0, pos := "law.go:302", after := #[], guard := none }) (v := ?_) rfl (by kernel_rfl) (by kernel_rfl) (by kernel_rfl) (fun _ _ _ h => h) (Or.inl ⟨by kernel_rfl, ?_⟩) hHeld ?_
          rotate_left
          · (intro w hSw; (try dsimp only at hSw); go_simp; all_goals (with_reducible rfl))
          try simp only [Act.put, List.setIfInBounds_toArray, List.set_cons_zero, List.set_cons_succ]
          refine wpAnyH_take (i := 10) (oi := { dst := some 103, op := Op.load 9 (Operand.tmp 102), type := 9, pos := "law.go:302", after := #[{ on := 9, ground := Ground.data }], guard := none }) (v := ?_) rfl (by kernel_rfl) (by kernel_rfl) (by kernel_rfl) (fun _ _ _ h => h) (Or.inl ⟨by kernel_rfl, ?_⟩) hHeld ?_
          rotate_left
          · (intro w hSw; (try dsimp only at hSw); go_simp; all_goals (with_reducible rfl))
          try simp only [Act.put, List.setIfInBounds_toArray, List.set_cons_zero, List.set_cons_succ]
          refine wpAnyH_ready (rs := [5]) (by kernel_rfl) (by simp) ?_
          refine AllReadyH.cons (o := { dst := some 98, op := Op.call { callee := Callee.value (Operand.func 21), args := #[Operand.tmp 93, Operand.tmp 95, Operand.tmp 97], argTypes := #[23, 3, 9] }, type := 24, pos := "law.go:302", after := #[{ on := 0, ground := Ground.data }, { on := 2, ground := Ground.data }, { on := 4, ground := Ground.data }], guard := none }) rfl (fun K hK => ?_) AllReadyH.nil
          go_simp
          go_at_call 21
          with_reducible refine Calls.mono J1.out ?_
          rintro e w7 ⟨rfl, F7, h_w7, x_w7, nb_w7⟩
          have HB7 := Lib.hid h_w7
          have X7 := Lib.hid x_w7
          have N7 := Lib.hid nb_w7
          have y0 : w7.cell? ⟨w5.heap.size, 0, none⟩ = some (.int .i64 (q : Int)) := cellOf X7.out 0
          have y1 : w7.cell? ⟨w5.heap.size, 1, none⟩ = some (.string s') := cellOf X7.out 1
          have y2 : w7.cell? ⟨w5.heap.size, 2, none⟩ = some (.bool true) := cellOf X7.out 2
          have J2 := Lib.hid (HB7.out.rot.rot.write1 O1.out q s' hs' P1'.out X7.out n3)
          clear h_w7 x_w7 nb_w7 hHeld
          refine hK.out _ _ ⟨y0, y1, y2⟩ (fun hHeld => ?_)
          clear hK K
          try simp only [Act.put, List.setIfInBounds_toArray, List.set_cons_zero, List.set_cons_succ]
          refine wpAnyH_ready (rs := [11]) (by kernel_rfl) (by simp) ?_
          refine AllReadyH.cons (o := { dst := some 104, op := Op.call { callee := Callee.value (Operand.func 21), args := #[Operand.tmp 99, Operand.tmp 101, Operand.tmp 103], argTypes := #[23, 3, 9] }, type := 24, pos := "law.go:302", after := #[{ on := 6, ground := Ground.data }, { on := 8, ground := Ground.data }, { on := 10, ground := Ground.data }, { on := 5, ground := Ground.chain }], guard := none }) rfl (fun K hK => ?_) AllReadyH.nil
          go_simp
          go_at_call 21
          with_reducible refine Calls.mono J2.out ?_
          rintro e w8 ⟨rfl, F8, h_w8, x_w8, nb_w8⟩
          have HB8 := Lib.hid h_w8
          have X8 := Lib.hid x_w8
          have N8 := Lib.hid nb_w8
          have v0 : w8.cell? ⟨w5.heap.size, 0, none⟩ = some (.int .i64 (q : Int)) := cellOf X8.out 0
          have v1 : w8.cell? ⟨w5.heap.size, 1, none⟩ = some (.string s') := cellOf X8.out 1
          have v2 : w8.cell? ⟨w5.heap.size, 2, none⟩ = some (.bool true) := cellOf X8.out 2
          have J3 := Lib.hid (HB8.out.rot.sync1 O1'.out X8.out N7.out)
          clear h_w8 x_w8 nb_w8 hHeld
          refine hK.out _ _ ⟨v0, v1, v2⟩ (fun hHeld => ?_)
          clear hK K
          try simp only [Act.put, List.setIfInBounds_toArray, List.set_cons_zero, List.set_cons_succ]
          refine wpAnyH_take (i := 12) (oi := { dst := some 105, op := Op.binOp BinOp.neq 24 (Operand.tmp 98) (Operand.tmp 104) 24, type := 4, pos := "law.go:302", after := #[{ on := 5, ground := Ground.data }, { on := 11, ground := Ground.data }], guard := none }) (v := ?_) rfl (by kernel_rfl) (by kernel_rfl) (by kernel_rfl) (fun _ _ _ h => h) (Or.inl ⟨by kernel_rfl, ?_⟩) hHeld ?_
          rotate_left
          · (intro w hSw; (try dsimp only at hSw); go_simp; all_goals (with_reducible rfl))
          try simp only [Act.put, List.setIfInBounds_toArray, List.set_cons_zero, List.set_cons_succ]
          refine wpAnyH_take (i := 13) (oi := { dst := some 106, op := Op.move (Operand.tmp 105), type := 4, pos := "law.go:302", after := #[{ on := 12, ground := Ground.data }, { on := 11, ground := Ground.chain }], guard := none }) (v := ?_) rfl (by kernel_rfl) (by kernel_rfl) (by kernel_rfl) (fun _ _ _ h => h) (Or.inl ⟨by kernel_rfl, ?_⟩) hHeld ?_
          rotate_left
          · (intro w hSw; (try dsimp only at hSw); go_simp; all_goals (with_reducible rfl))
          try simp only [Act.put, List.setIfInBounds_toArray, List.set_cons_zero, List.set_cons_succ]
          refine wpAnyH_take (i := 14) (oi := { dst := some 107, op := Op.fieldAddr 53 (Operand.tmp 13) 2, type := 0, pos := "law.go:302", after := #[{ on := 13, ground := Ground.guard }], guard := some (13, false) }) (v := ?_) rfl (by kernel_rfl) (by kernel_rfl) (by kernel_rfl) (fun _ _ _ h => h) (Or.inl ⟨by kernel_rfl, ?_⟩) hHeld ?_
          rotate_left
          · (intro w hSw; (try dsimp only at hSw); go_simp; all_goals (with_reducible rfl))
          try simp only [Act.put, List.setIfInBounds_toArray, List.set_cons_zero, List.set_cons_succ]
          refine wpAnyH_take (i := 15) (oi := { dst := some 108, op := Op.load 4 (Operand.tmp 107), type := 4, pos := "law.go:302", after := #[{ on := 14, ground := Ground.data }, { on := 13, ground := Ground.guard }], guard := some (13, false) }) (v := ?_) rfl (by kernel_rfl) (by kernel_rfl) (by kernel_rfl) (fun _ _ _ h => h) (Or.inl ⟨by kernel_rfl, ?_⟩) hHeld ?_
          rotate_left
          · (intro w hSw; (try dsimp only at hSw); go_simp; all_goals (with_reducible rfl))
          try simp only [Act.put, List.setIfInBounds_toArray, List.set_cons_zero, List.set_cons_succ]
          refine wpAnyH_take (i := 16) (oi := { dst := some 109, op := Op.move (Operand.tmp 108), type := 4, pos := "law.go:302", after := #[{ on := 15, ground := Ground.data }, { on := 13, ground := Ground.chain }, { on := 13, ground := Ground.guard }], guard := some (13, false) }) (v := ?_) rfl (by kernel_rfl) (by kernel_rfl) (by kernel_rfl) (fun _ _ _ h => h) (Or.inl ⟨by kernel_rfl, ?_⟩) hHeld ?_
          rotate_left
          · (intro w hSw; (try dsimp only at hSw); go_simp; all_goals (with_reducible rfl))
          try simp only [Act.put, List.setIfInBounds_toArray, List.set_cons_zero, List.set_cons_succ]
          refine wpAnyH_take (i := 17) (oi := { dst := some 110, op := Op.move (Operand.tmp 6), type := 23, pos := "law.go:302", after := #[{ on := 16, ground := Ground.guard }], guard := some (16, true) }) (v := ?_) rfl (by kernel_rfl) (by kernel_rfl) (by kernel_rfl) (fun _ _ _ h => h) (Or.inl ⟨by kernel_rfl, ?_⟩) hHeld ?_
          rotate_left
          · (intro w hSw; (try dsimp only at hSw); go_simp; all_goals (with_reducible rfl))
          try simp only [Act.put, List.setIfInBounds_toArray, List.set_cons_zero, List.set_cons_succ]
          refine wpAnyH_take (i := 19) (oi := { dst := some 112, op := Op.move (Operand.tmp 10), type := 23, pos := "law.go:302", after := #[{ on := 16, ground := Ground.guard }], guard := some (16, true) }) (v := ?_) rfl (by kernel_rfl) (by kernel_rfl) (by kernel_rfl) (fun _ _ _ h => h) (Or.inl ⟨by kernel_rfl, ?_⟩) hHeld ?_
          rotate_left
          · (intro w hSw; (try dsimp only at hSw); go_simp; all_goals (with_reducible rfl))
          try simp only [Act.put, List.setIfInBounds_toArray, List.set_cons_zero, List.set_cons_succ]
          refine wpAnyH_ready (rs := [18]) (by kernel_rfl) (by simp) ?_
          refine AllReadyH.cons (o := { dst := some 111, op := Op.call { callee := Callee.value (Operand.func 23), args := #[Operand.tmp 110], argTypes := #[23] }, type := 24, pos := "law.go:302", after := #[{ on := 17, ground := Ground.data }, { on := 16, ground := Ground.chain }, { on := 16, ground := Ground.guard }], guard := some (16, true) }) rfl (fun K hK => ?_) AllReadyH.nil
          go_simp
          go_at_call 23
          with_reducible refine Calls.mono J3.out ?_
          rintro e w9 ⟨rfl, F9, h_w9, x_w9, nb_w9⟩
          have HB9 := Lib.hid h_w9
          have X9 := Lib.hid x_w9
          have N9 := Lib.hid nb_w9
          have r0 : w9.cell? ⟨w5.heap.size, 0, none⟩ = some (.int .i64 (q : Int)) := cellOf X9.out 0
          have r1 : w9.cell? ⟨w5.heap.size, 1, none⟩ = some (.string s') := cellOf X9.out 1
          have r2 : w9.cell? ⟨w5.heap.size, 2, none⟩ = some (.bool true) := cellOf X9.out 2
          have J4 := Lib.hid (HB9.out.rot.rot.sync1 O1'.out X9.out N8.out)
          clear h_w9 x_w9 nb_w9 hHeld
          refine hK.out _ _ ⟨r0, r1, r2⟩ (fun hHeld => ?_)
          clear hK K
          try simp only [Act.put, List.setIfInBounds_toArray, List.set_cons_zero, List.set_cons_succ]
          refine wpAnyH_ready (rs := [20]) (by kernel_rfl) (by simp) ?_
          refine AllReadyH.cons (o := { dst := some 113, op := Op.call { callee := Callee.value (Operand.func 23), args := #[Operand.tmp 112], argTypes := #[23] }, type := 24, pos := "law.go:302", after := #[{ on := 19, ground := Ground.data }, { on := 18, ground := Ground.chain }, { on := 16, ground := Ground.guard }], guard := some (16, true) }) rfl (fun K hK => ?_) AllReadyH.nil
          go_simp
          go_at_call 23
          with_reducible refine Calls.mono J4.out ?_
          rintro e w10 ⟨rfl, F10, h_w10, x_w10, nb_w10⟩
          have HB10 := Lib.hid h_w10
          have X10 := Lib.hid x_w10
          have N10 := Lib.hid nb_w10
          have u0 : w10.cell? ⟨w5.heap.size, 0, none⟩ = some (.int .i64 (q : Int)) := cellOf X10.out 0
          have u1 : w10.cell? ⟨w5.heap.size, 1, none⟩ = some (.string s') := cellOf X10.out 1
          have u2 : w10.cell? ⟨w5.heap.size, 2, none⟩ = some (.bool true) := cellOf X10.out 2
          clear h_w10 x_w10 nb_w10 hHeld
          refine hK.out _ _ ⟨u0, u1, u2⟩ (fun hHeld => ?_)
          clear hK K
          try simp only [Act.put, List.setIfInBounds_toArray, List.set_cons_zero, List.set_cons_succ]
          refine wpAnyH_take (i := 21) (oi := { dst := some 114, op := Op.binOp BinOp.neq 24 (Operand.tmp 111) (Operand.tmp 113) 24, type := 4, pos := "law.go:302", after := #[{ on := 18, ground := Ground.data }, { on := 20, ground := Ground.data }, { on := 16, ground := Ground.guard }], guard := some (16, true) }) (v := ?_) rfl (by kernel_rfl) (by kernel_rfl) (by kernel_rfl) (fun _ _ _ h => h) (Or.inl ⟨by kernel_rfl, ?_⟩) hHeld ?_
          rotate_left
          · (intro w hSw; (try dsimp only at hSw); go_simp; all_goals (with_reducible rfl))
          try simp only [Act.put, List.setIfInBounds_toArray, List.set_cons_zero, List.set_cons_succ]
          refine wpAnyH_take (i := 22) (oi := { dst := some 115, op := Op.pick (Operand.tmp 109) (Operand.tmp 114) (Operand.const (Value.bool false)), type := 4, pos := "law.go:302", after := #[{ on := 16, ground := Ground.data }, { on := 21, ground := Ground.data }, { on := 13, ground := Ground.guard }], guard := some (13, false) }) (v := ?_) rfl (by kernel_rfl) (by kernel_rfl) (by kernel_rfl) (fun _ _ _ h => h) (Or.inl ⟨by kernel_rfl, ?_⟩) hHeld ?_
          rotate_left
          · (intro w hSw; (try dsimp only at hSw); go_simp; all_goals (with_reducible rfl))
          try simp only [Act.put, List.setIfInBounds_toArray, List.set_cons_zero, List.set_cons_succ]
          refine wpAnyH_take (i := 23) (oi := { dst := some 116, op := Op.pick (Operand.tmp 106) (Operand.const (Value.bool true)) (Operand.tmp 115), type := 4, pos := "law.go:302", after := #[{ on := 13, ground := Ground.data }, { on := 22, ground := Ground.data }], guard := none }) (v := ?_) rfl (by kernel_rfl) (by kernel_rfl) (by kernel_rfl) (fun _ _ _ h => h) (Or.inl ⟨by kernel_rfl, ?_⟩) hHeld ?_
          rotate_left
          · (intro w hSw; (try dsimp only at hSw); go_simp; all_goals (with_reducible rfl))
          try simp only [Act.put, List.setIfInBounds_toArray, List.set_cons_zero, List.set_cons_succ]
          refine wpAnyH_done (by kernel_rfl) ?_ _
          go_wp2_with fail
          go_roundw
          case rel => exact ⟨k + 1, _, _, _, _, _, by omega, by omega, by simp, ((hy1.out.write q s').sync), hy2.out.up (by omega), HB10.out.rot⟩
          case measure => simp [intOf]; omega
        | false =>
          go_wp2_with fail
          refine wp_region_held_drew (S := (fun w' => w'.cell? ⟨w5.heap.size, 0, none⟩ = some (.int .i64 (q : Int)) ∧ w'.cell? ⟨w5.heap.size, 1, none⟩ = some (.string s') ∧ w'.cell? ⟨w5.heap.size, 2, none⟩ = some (.bool false))) (by kernel_rfl) ⟨t0, t1, t2⟩ (fun hHeld => ?_)
          refine wpAnyH_take (i := 0) (oi := { dst := some 93, op := Op.move (Operand.tmp 6), type := 23, pos := "law.go:302", after := #[], guard := none }) (v := ?_) rfl (by kernel_rfl) (by kernel_rfl) (by kernel_rfl) (fun _ _ _ h => h) (Or.inl ⟨by kernel_rfl, ?_⟩) hHeld ?_
          rotate_left
          · (intro w hSw; (try dsimp only at hSw); go_simp; all_goals (with_reducible rfl))
          try simp only [Act.put, List.setIfInBounds_toArray, List.set_cons_zero, List.set_cons_succ]
          refine wpAnyH_take (i := 1) (oi := { dst := some 94, op := Op.fieldAddr 53 (Operand.tmp 13) 0, type := 0, pos := "law.go:302", after := #[], guard := none }) (v := ?_) rfl (by kernel_rfl) (by kernel_rfl) (by kernel_rfl) (fun _ _ _ h => h) (Or.inl ⟨by kernel_rfl, ?_⟩) hHeld ?_
          rotate_left
          · (intro w hSw; (try dsimp only at hSw); go_simp; all_goals (with_reducible rfl))
          try simp only [Act.put, List.setIfInBounds_toArray, List.set_cons_zero, List.set_cons_succ]
          refine wpAnyH_take (i := 2) (oi := { dst := some 95, op := Op.load 3 (Operand.tmp 94), type := 3, pos := "law.go:302", after := #[{ on := 1, ground := Ground.data }], guard := none }) (v := ?_) rfl (by kernel_rfl) (by kernel_rfl) (by kernel_rfl) (fun _ _ _ h => h) (Or.inl ⟨by kernel_rfl, ?_⟩) hHeld ?_
          rotate_left
          · (intro w hSw; (try dsimp only at hSw); go_simp; all_goals (with_reducible rfl))
          try simp only [Act.put, List.setIfInBounds_toArray, List.set_cons_zero, List.set_cons_succ]
          refine wpAnyH_take (i := 3) (oi := { dst := some 96, op := Op.fieldAddr 53 (Operand.tmp 13) 1, type := 0, pos := "law.go:302", after := #[], guard := none }) (v := ?_) rfl (by kernel_rfl) (by kernel_rfl) (by kernel_rfl) (fun _ _ _ h => h) (Or.inl ⟨by kernel_rfl, ?_⟩) hHeld ?_
          rotate_left
          · (intro w hSw; (try dsimp only at hSw); go_simp; all_goals (with_reducible rfl))
          try simp only [Act.put, List.setIfInBounds_toArray, List.set_cons_zero, List.set_cons_succ]
          refine wpAnyH_take (i := 4) (oi := { dst := some 97, op := Op.load 9 (Operand.tmp 96), type := 9, pos := "law.go:302", after := #[{ on := 3, ground := Ground.data }], guard := none }) (v := ?_) rfl (by kernel_rfl) (by kernel_rfl) (by kernel_rfl) (fun _ _ _ h => h) (Or.inl ⟨by kernel_rfl, ?_⟩) hHeld ?_
          rotate_left
          · (intro w hSw; (try dsimp only at hSw); go_simp; all_goals (with_reducible rfl))
          try simp only [Act.put, List.setIfInBounds_toArray, List.set_cons_zero, List.set_cons_succ]
          refine wpAnyH_take (i := 6) (oi := { dst := some 99, op := Op.move (Operand.tmp 10), type := 23, pos := "law.go:302", after := #[], guard := none }) (v := ?_) rfl (by kernel_rfl) (by kernel_rfl) (by kernel_rfl) (fun _ _ _ h => h) (Or.inl ⟨by kernel_rfl, ?_⟩) hHeld ?_
          rotate_left
          · (intro w hSw; (try dsimp only at hSw); go_simp; all_goals (with_reducible rfl))
          try simp only [Act.put, List.setIfInBounds_toArray, List.set_cons_zero, List.set_cons_succ]
          refine wpAnyH_take (i := 7) (oi := { dst := some 100, op := Op.fieldAddr 53 (Operand.tmp 13) 0, type := 0, pos := "law.go:302", after := #[], guard := none }) (v := ?_) rfl (by kernel_rfl) (by kernel_rfl) (by kernel_rfl) (fun _ _ _ h => h) (Or.inl ⟨by kernel_rfl, ?_⟩) hHeld ?_
          rotate_left
          · (intro w hSw; (try dsimp only at hSw); go_simp; all_goals (with_reducible rfl))
          try simp only [Act.put, List.setIfInBounds_toArray, List.set_cons_zero, List.set_cons_succ]
          refine wpAnyH_take (i := 8) (oi := { dst := some 101, op := Op.load 3 (Operand.tmp 100), type := 3, pos := "law.go:302", after := #[{ on := 7, ground := Ground.data }], guard := none }) (v := ?_) rfl (by kernel_rfl) (by kernel_rfl) (by kernel_rfl) (fun _ _ _ h => h) (Or.inl ⟨by kernel_rfl, ?_⟩) hHeld ?_
          rotate_left
          · (intro w hSw; (try dsimp only at hSw); go_simp; all_goals (with_reducible rfl))
          try simp only [Act.put, List.setIfInBounds_toArray, List.set_cons_zero, List.set_cons_succ]
          refine wpAnyH_take (i := 9) (oi := { dst := some 102, op := Op.fieldAddr 53 (Operand.tmp 13) 1, type := 0, pos := "law.go:302", after := #[], guard := none }) (v := ?_) rfl (by kernel_rfl) (by kernel_rfl) (by kernel_rfl) (fun _ _ _ h => h) (Or.inl ⟨by kernel_rfl, ?_⟩) hHeld ?_
          rotate_left
          · (intro w hSw; (try dsimp only at hSw); go_simp; all_goals (with_reducible rfl))
          try simp only [Act.put, List.setIfInBounds_toArray, List.set_cons_zero, List.set_cons_succ]
          refine wpAnyH_take (i := 10) (oi := { dst := some 103, op := Op.load 9 (Operand.tmp 102), type := 9, pos := "law.go:302", after := #[{ on := 9, ground := Ground.data }], guard := none }) (v := ?_) rfl (by kernel_rfl) (by kernel_rfl) (by kernel_rfl) (fun _ _ _ h => h) (Or.inl ⟨by kernel_rfl, ?_⟩) hHeld ?_
          rotate_left
          · (intro w hSw; (try dsimp only at hSw); go_simp; all_goals (with_reducible rfl))
          try simp only [Act.put, List.setIfInBounds_toArray, List.set_cons_zero, List.set_cons_succ]
          refine wpAnyH_ready (rs := [5]) (by kernel_rfl) (by simp) ?_
          refine AllReadyH.cons (o := { dst := some 98, op := Op.call { callee := Callee.value (Operand.func 21), args := #[Operand.tmp 93, Operand.tmp 95, Operand.tmp 97], argTypes := #[23, 3, 9] }, type := 24, pos := "law.go:302", after := #[{ on := 0, ground := Ground.data }, { on := 2, ground := Ground.data }, { on := 4, ground := Ground.data }], guard := none }) rfl (fun K hK => ?_) AllReadyH.nil
          go_simp
          go_at_call 21
          with_reducible refine Calls.mono J1.out ?_
          rintro e w7 ⟨rfl, F7, h_w7, x_w7, nb_w7⟩
          have HB7 := Lib.hid h_w7
          have X7 := Lib.hid x_w7
          have N7 := Lib.hid nb_w7
          have y0 : w7.cell? ⟨w5.heap.size, 0, none⟩ = some (.int .i64 (q : Int)) := cellOf X7.out 0
          have y1 : w7.cell? ⟨w5.heap.size, 1, none⟩ = some (.string s') := cellOf X7.out 1
          have y2 : w7.cell? ⟨w5.heap.size, 2, none⟩ = some (.bool false) := cellOf X7.out 2
          have J2 := Lib.hid (HB7.out.rot.rot.write1 O1.out q s' hs' P1'.out X7.out n3)
          clear h_w7 x_w7 nb_w7 hHeld
          refine hK.out _ _ ⟨y0, y1, y2⟩ (fun hHeld => ?_)
          clear hK K
          try simp only [Act.put, List.setIfInBounds_toArray, List.set_cons_zero, List.set_cons_succ]
          refine wpAnyH_ready (rs := [11]) (by kernel_rfl) (by simp) ?_
          refine AllReadyH.cons (o := { dst := some 104, op := Op.call { callee := Callee.value (Operand.func 21), args := #[Operand.tmp 99, Operand.tmp 101, Operand.tmp 103], argTypes := #[23, 3, 9] }, type := 24, pos := "law.go:302", after := #[{ on := 6, ground := Ground.data }, { on := 8, ground := Ground.data }, { on := 10, ground := Ground.data }, { on := 5, ground := Ground.chain }], guard := none }) rfl (fun K hK => ?_) AllReadyH.nil
          go_simp
          go_at_call 21
          with_reducible refine Calls.mono J2.out ?_
          rintro e w8 ⟨rfl, F8, h_w8, x_w8, nb_w8⟩
          have HB8 := Lib.hid h_w8
          have X8 := Lib.hid x_w8
          have N8 := Lib.hid nb_w8
          have v0 : w8.cell? ⟨w5.heap.size, 0, none⟩ = some (.int .i64 (q : Int)) := cellOf X8.out 0
          have v1 : w8.cell? ⟨w5.heap.size, 1, none⟩ = some (.string s') := cellOf X8.out 1
          have v2 : w8.cell? ⟨w5.heap.size, 2, none⟩ = some (.bool false) := cellOf X8.out 2
          clear h_w8 x_w8 nb_w8 hHeld
          refine hK.out _ _ ⟨v0, v1, v2⟩ (fun hHeld => ?_)
          clear hK K
          try simp only [Act.put, List.setIfInBounds_toArray, List.set_cons_zero, List.set_cons_succ]
          refine wpAnyH_take (i := 12) (oi := { dst := some 105, op := Op.binOp BinOp.neq 24 (Operand.tmp 98) (Operand.tmp 104) 24, type := 4, pos := "law.go:302", after := #[{ on := 5, ground := Ground.data }, { on := 11, ground := Ground.data }], guard := none }) (v := ?_) rfl (by kernel_rfl) (by kernel_rfl) (by kernel_rfl) (fun _ _ _ h => h) (Or.inl ⟨by kernel_rfl, ?_⟩) hHeld ?_
          rotate_left
          · (intro w hSw; (try dsimp only at hSw); go_simp; all_goals (with_reducible rfl))
          try simp only [Act.put, List.setIfInBounds_toArray, List.set_cons_zero, List.set_cons_succ]
          refine wpAnyH_take (i := 13) (oi := { dst := some 106, op := Op.move (Operand.tmp 105), type := 4, pos := "law.go:302", after := #[{ on := 12, ground := Ground.data }, { on := 11, ground := Ground.chain }], guard := none }) (v := ?_) rfl (by kernel_rfl) (by kernel_rfl) (by kernel_rfl) (fun _ _ _ h => h) (Or.inl ⟨by kernel_rfl, ?_⟩) hHeld ?_
          rotate_left
          · (intro w hSw; (try dsimp only at hSw); go_simp; all_goals (with_reducible rfl))
          try simp only [Act.put, List.setIfInBounds_toArray, List.set_cons_zero, List.set_cons_succ]
          refine wpAnyH_take (i := 14) (oi := { dst := some 107, op := Op.fieldAddr 53 (Operand.tmp 13) 2, type := 0, pos := "law.go:302", after := #[{ on := 13, ground := Ground.guard }], guard := some (13, false) }) (v := ?_) rfl (by kernel_rfl) (by kernel_rfl) (by kernel_rfl) (fun _ _ _ h => h) (Or.inl ⟨by kernel_rfl, ?_⟩) hHeld ?_
          rotate_left
          · (intro w hSw; (try dsimp only at hSw); go_simp; all_goals (with_reducible rfl))
          try simp only [Act.put, List.setIfInBounds_toArray, List.set_cons_zero, List.set_cons_succ]
          refine wpAnyH_take (i := 15) (oi := { dst := some 108, op := Op.load 4 (Operand.tmp 107), type := 4, pos := "law.go:302", after := #[{ on := 14, ground := Ground.data }, { on := 13, ground := Ground.guard }], guard := some (13, false) }) (v := ?_) rfl (by kernel_rfl) (by kernel_rfl) (by kernel_rfl) (fun _ _ _ h => h) (Or.inl ⟨by kernel_rfl, ?_⟩) hHeld ?_
          rotate_left
          · (intro w hSw; (try dsimp only at hSw); go_simp; all_goals (with_reducible rfl))
          try simp only [Act.put, List.setIfInBounds_toArray, List.set_cons_zero, List.set_cons_succ]
          refine wpAnyH_take (i := 16) (oi := { dst := some 109, op := Op.move (Operand.tmp 108), type := 4, pos := "law.go:302", after := #[{ on := 15, ground := Ground.data }, { on := 13, ground := Ground.chain }, { on := 13, ground := Ground.guard }], guard := some (13, false) }) (v := ?_) rfl (by kernel_rfl) (by kernel_rfl) (by kernel_rfl) (fun _ _ _ h => h) (Or.inl ⟨by kernel_rfl, ?_⟩) hHeld ?_
          rotate_left
          · (intro w hSw; (try dsimp only at hSw); go_simp; all_goals (with_reducible rfl))
          try simp only [Act.put, List.setIfInBounds_toArray, List.set_cons_zero, List.set_cons_succ]
          refine wpAnyH_take (i := 17) (oi := { dst := some 110, op := Op.move (Operand.tmp 6), type := 23, pos := "law.go:302", after := #[{ on := 16, ground := Ground.guard }], guard := some (16, true) }) (v := undef) rfl (by kernel_rfl) (by kernel_rfl) (by kernel_rfl) (fun _ _ _ h => h) (Or.inr ⟨by kernel_rfl, rfl⟩) hHeld ?_
          try simp only [Act.put, List.setIfInBounds_toArray, List.set_cons_zero, List.set_cons_succ]
          refine wpAnyH_take (i := 18) (oi := { dst := some 111, op := Op.call { callee := Callee.value (Operand.func 23), args := #[Operand.tmp 110], argTypes := #[23] }, type := 24, pos := "law.go:302", after := #[{ on := 17, ground := Ground.data }, { on := 16, ground := Ground.chain }, { on := 16, ground := Ground.guard }], guard := some (16, true) }) (v := undef) rfl (by kernel_rfl) (by kernel_rfl) (by kernel_rfl) (fun _ _ _ h => h) (Or.inr ⟨by kernel_rfl, rfl⟩) hHeld ?_
          try simp only [Act.put, List.setIfInBounds_toArray, List.set_cons_zero, List.set_cons_succ]
          refine wpAnyH_take (i := 19) (oi := { dst := some 112, op := Op.move (Operand.tmp 10), type := 23, pos := "law.go:302", after := #[{ on := 16, ground := Ground.guard }], guard := some (16, true) }) (v := undef) rfl (by kernel_rfl) (by kernel_rfl) (by kernel_rfl) (fun _ _ _ h => h) (Or.inr ⟨by kernel_rfl, rfl⟩) hHeld ?_
          try simp only [Act.put, List.setIfInBounds_toArray, List.set_cons_zero, List.set_cons_succ]
          refine wpAnyH_take (i := 20) (oi := { dst := some 113, op := Op.call { callee := Callee.value (Operand.func 23), args := #[Operand.tmp 112], argTypes := #[23] }, type := 24, pos := "law.go:302", after := #[{ on := 19, ground := Ground.data }, { on := 18, ground := Ground.chain }, { on := 16, ground := Ground.guard }], guard := some (16, true) }) (v := undef) rfl (by kernel_rfl) (by kernel_rfl) (by kernel_rfl) (fun _ _ _ h => h) (Or.inr ⟨by kernel_rfl, rfl⟩) hHeld ?_
          try simp only [Act.put, List.setIfInBounds_toArray, List.set_cons_zero, List.set_cons_succ]
          refine wpAnyH_take (i := 21) (oi := { dst := some 114, op := Op.binOp BinOp.neq 24 (Operand.tmp 111) (Operand.tmp 113) 24, type := 4, pos := "law.go:302", after := #[{ on := 18, ground := Ground.data }, { on := 20, ground := Ground.data }, { on := 16, ground := Ground.guard }], guard := some (16, true) }) (v := undef) rfl (by kernel_rfl) (by kernel_rfl) (by kernel_rfl) (fun _ _ _ h => h) (Or.inr ⟨by kernel_rfl, rfl⟩) hHeld ?_
          try simp only [Act.put, List.setIfInBounds_toArray, List.set_cons_zero, List.set_cons_succ]
          refine wpAnyH_take (i := 22) (oi := { dst := some 115, op := Op.pick (Operand.tmp 109) (Operand.tmp 114) (Operand.const (Value.bool false)), type := 4, pos := "law.go:302", after := #[{ on := 16, ground := Ground.data }, { on := 21, ground := Ground.data }, { on := 13, ground := Ground.guard }], guard := some (13, false) }) (v := ?_) rfl (by kernel_rfl) (by kernel_rfl) (by kernel_rfl) (fun _ _ _ h => h) (Or.inl ⟨by kernel_rfl, ?_⟩) hHeld ?_
          rotate_left
          · (intro w hSw; (try dsimp only at hSw); go_simp; all_goals (with_reducible rfl))
          try simp only [Act.put, List.setIfInBounds_toArray, List.set_cons_zero, List.set_cons_succ]
          refine wpAnyH_take (i := 23) (oi := { dst := some 116, op := Op.pick (Operand.tmp 106) (Operand.const (Value.bool true)) (Operand.tmp 115), type := 4, pos := "law.go:302", after := #[{ on := 13, ground := Ground.data }, { on := 22, ground := Ground.data }], guard := none }) (v := ?_) rfl (by kernel_rfl) (by kernel_rfl) (by kernel_rfl) (fun _ _ _ h => h) (Or.inl ⟨by kernel_rfl, ?_⟩) hHeld ?_
          rotate_left
          · (intro w hSw; (try dsimp only at hSw); go_simp; all_goals (with_reducible rfl))
          try simp only [Act.put, List.setIfInBounds_toArray, List.set_cons_zero, List.set_cons_succ]
          refine wpAnyH_done (by kernel_rfl) ?_ _
          go_wp2_with fail
          go_roundw
          case rel => exact ⟨k + 1, _, _, _, _, _, by omega, by omega, by simp, (hy1.out.write q s'), hy2.out.up (by omega), HB8.out.rot⟩
          case measure => simp [intOf]; omega
    · have O1 := Lib.hid hy1.out.1
      by_cases hl : k < len
      · have h60 : ¬ (k : Int) < 30 := by omega
        clear hlt
        go_wp2_with fail
        refine (readF_all hB.out.k1 O1.out).mono ?_
        rintro e w' ⟨rfl, rfl⟩
        go_wp2_with fail
        refine (readF_all hB.out.k3 O1.out).mono ?_
        rintro e w' ⟨rfl, rfl⟩
        go_wp2_with fail
        refine (pendingF hB.out.k1).mono ?_
        rintro e w' ⟨rfl, rfl⟩
        go_wp2_with fail
        refine (pendingF hB.out.k3).mono ?_
        rintro e w' ⟨rfl, rfl⟩
        go_wp2_with fail
        go_ret
        exact ⟨rfl, hB.out.below⟩
      · clear hlt
        go_wp2_with fail
        refine (readF_all hB.out.k1 O1.out).mono ?_
        rintro e w' ⟨rfl, rfl⟩
        go_wp2_with fail
        refine (readF_all hB.out.k3 O1.out).mono ?_
        rintro e w' ⟨rfl, rfl⟩
        go_wp2_with fail
        refine (pendingF hB.out.k1).mono ?_
        rintro e w' ⟨rfl, rfl⟩
        go_wp2_with fail
        refine (pendingF hB.out.k3).mono ?_
        rintro e w' ⟨rfl, rfl⟩
        go_wp2_with fail
        go_ret
        exact ⟨rfl, hB.out.below⟩
end Go.Proofs.Ytljgphmdiflphaa
