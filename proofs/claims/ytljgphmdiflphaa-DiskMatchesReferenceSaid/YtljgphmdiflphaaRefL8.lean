/- The walk of DiskMatchesReference. -/
import Derived.Test.YtljgphmdiflphaaRefG
namespace Go.Proofs.Ytljgphmdiflphaa
open Go.RowKit
set_option linter.unusedVariables false
set_option linter.unusedSimpArgs false

structure StepV where
  call : Int
  off : Int
  n : Int
  s : ByteArray
  ka : Option Addr
  kl : Nat
  kc : Nat
  keep : List Int

/-- The calls that the law is given. -/
structure SRow (w : World) (a : Option Addr) (zs : List StepV) : Prop where
  cell : ∀ i (h : i < zs.length), ∃ g off, a = some ⟨g, off, none⟩ ∧ g < w.heap.size ∧ w.cell? ⟨g, off + i * 5, none⟩ = some (.int .i64 zs[i].call) ∧ w.cell? ⟨g, off + i * 5 + 1, none⟩ = some (.int .i64 zs[i].off) ∧
    w.cell? ⟨g, off + i * 5 + 2, none⟩ = some (.int .i64 zs[i].n) ∧ w.cell? ⟨g, off + i * 5 + 3, none⟩ = some (.string zs[i].s) ∧ w.cell? ⟨g, off + i * 5 + 4, none⟩ = some (.slice zs[i].ka zs[i].kl zs[i].kc)
  fit : ∀ i (h : i < zs.length), (-9223372036854775808 ≤ zs[i].call ∧ zs[i].call ≤ 9223372036854775807) ∧ (-9223372036854775808 ≤ zs[i].off ∧ zs[i].off ≤ 9223372036854775807) ∧ (-9223372036854775808 ≤ zs[i].n ∧ zs[i].n ≤ 9223372036854775807) ∧
    zs[i].s.size ≤ 9223372036854775807 ∧ IntsAt w.heap.size w (.slice zs[i].ka zs[i].kl zs[i].kc) zs[i].keep ∧ zs[i].keep.length = zs[i].kl ∧ zs[i].kl ≤ zs[i].kc ∧ zs[i].kc ≤ 9223372036854775807

set_option maxRecDepth 100000 in
set_option maxHeartbeats 3200000 in
theorem matches_walk (size : Int) (a : Option Addr) (len cap : Nat) (zs : List StepV) (w : World) (hs0 : -9223372036854775808 ≤ size) (hs1 : size ≤ 9223372036854775807) (hlen : len ≤ cap) (hcap : cap ≤ 9223372036854775807)
    (hz : zs.length = len) (hrow : SRow w a zs) :
    Calls Try.prog 4 #[.int .i64 size, .slice a len cap] w fun e w' => e = .returned (.bool true) ∧ Below w.heap.size w w' := by
  have hp0 := pickZ_lo size 400 (by omega)
  have hp1 := pickZ_hi size 400 (by omega)
  obtain ⟨p, hp⟩ : ∃ p : Nat, pickZ size 400 = p := Int.eq_ofNat_of_zero_le hp0
  have hpn : p < 400 := by omega
  have HP := Lib.hid hp
  have HZ := Lib.hid hz
  have HROW := Lib.hid hrow
  clear hp0 hp1 hp hz hrow
  obtain ⟨n, hn⟩ : ∃ n : Nat, 1 + p = n := ⟨_, rfl⟩
  have hn1 : 1 ≤ n := by omega
  have hn2 : n ≤ 400 := by omega
  have HN := Lib.hid hn
  clear hn
  go_enter Try.func4, Try.ntmps4
  go_wp2_with fail
  refine (sane_any w).mono ?_
  rintro e w1 ⟨rfl, b1⟩
  have B1 := Lib.hid b1
  clear b1
  go_wp2_with fail
  refine (pick_any size 400 w1 (by omega) (by omega) hs0 hs1).mono ?_
  rintro e w' ⟨rfl, rfl⟩
  rw [HP.out]
  go_wp2_with fail
  rw [show (1 + (p : Int)) = (n : Int) from by have := HN.out; omega]
  refine (newF w1 n hn1 (by omega)).mono ?_
  rintro e w2 ⟨bd, rfl, ⟨F, g2, f2⟩, b2⟩
  have G2 := Lib.hid g2
  have F2 := Lib.hid f2
  have B2 := Lib.hid b2
  clear g2 f2 b2
  go_wp2_with fail
  refine (RefNew_ok w2 n hn1 (by omega)).mono ?_
  rintro e w3 ⟨bx, gs, rfl, h3, b3, p3, p4⟩
  have hR : RR w w3 bd bx n (newD n) (newD n) F (FootR bx gs (.slice none 0 0)) := by
    have s1 := B1.out.size
    have s2 := B2.out.size
    refine ⟨G2.out.upd (Upd.of_below (S := fun _ => False) b3) (fun _ _ f => f), ⟨_, _, _, h3, fun _ => Iff.rfl⟩, fun i a b => ?_, fun i a => Nat.le_trans s1 (F2.out i a), fun i a => ?_, B1.out.trans ((B2.out.mono s1).trans (b3.mono (by omega)))⟩
    · have := G2.out.lt a
      rcases b with rfl | rfl | e
      · omega
      · omega
      · cases e
    · rcases a with rfl | rfl | e
      · omega
      · omega
      · cases e
  have HR := Lib.hid hR
  clear hR h3 b3
  go_wp2_with fail
  go_loopw [10] (fun vi wr => ∃ (k : Nat) (d : DV) (F G : Nat → Prop), k ≤ len ∧ k ≤ 60 ∧ vi = .int .i64 k ∧ d.pe.length ≤ k ∧ Hid (RR w wr bd bx n d d F G)) (fun vi _ => len - (intOf vi).toNat)
  case atStart => exact ⟨0, newD n, F, _, by omega, by omega, rfl, Nat.le_refl _, HR.out⟩
  case round =>
    obtain ⟨k, d, F', G', hk, hk60, rfl, hpe, hB⟩ := hrel
    by_cases hlt : k < len ∧ k < 60
    · obtain ⟨hlt, hlt60⟩ := hlt
      have hkz : k < zs.length := by rw [HZ.out]; exact hlt
      obtain ⟨g, off, ha, hg, q0, q1, q2, q3, q4⟩ := HROW.out.cell k hkz
      obtain ⟨f0, f1, f2, f3, f4, f5, f6, f7⟩ := HROW.out.fit k hkz
      have hBel := hB.out.below
      have c0 := (hBel.cell (p := ⟨g, off + k * 5, none⟩) hg).trans q0
      have c1 := (hBel.cell (p := ⟨g, off + k * 5 + 1, none⟩) hg).trans q1
      have c2 := (hBel.cell (p := ⟨g, off + k * 5 + 2, none⟩) hg).trans q2
      have c3 := (hBel.cell (p := ⟨g, off + k * 5 + 3, none⟩) hg).trans q3
      have c4 := (hBel.cell (p := ⟨g, off + k * 5 + 4, none⟩) hg).trans q4
      subst ha
      generalize zs[k] = z at *
      have J1 := Lib.hid (step_any hB.out.drew z.call z.off z.n z.s z.ka z.kl z.kc z.keep f0.1 f0.2 f1.1 f1.2 f2.1 f2.2 f3 f4 f5 f6 f7 (by omega))
      have HD := Lib.hid (stepD_pe n d z.call z.off z.n z.s z.keep)
      generalize stepD n d z.call z.off z.n z.s z.keep = d' at J1 HD
      clear f4 f5 hBel hkz
      go_wp2_with fail
      refine wp_region_held_drew (S := (fun w' => w'.cell? ⟨g, off + k * 5, none⟩ = some (.int .i64 z.call) ∧ w'.cell? ⟨g, off + k * 5 + 1, none⟩ = some (.int .i64 z.off) ∧ w'.cell? ⟨g, off + k * 5 + 2, none⟩ = some (.int .i64 z.n) ∧ w'.cell? ⟨g, off + k * 5 + 3, none⟩ = some (.string z.s) ∧ w'.cell? ⟨g, off + k * 5 + 4, none⟩ = some (.slice z.ka z.kl z.kc))) (by kernel_rfl) ⟨c0, c1, c2, c3, c4⟩ (fun hHeld => ?_)
      refine wpAnyH_take (i := 0) (oi := { dst := some 45, op := Op.move (Operand.tmp 6), type := 23, pos := "law.go:94", after := #[], guard := none }) (v := ?_) rfl (by kernel_rfl) (by kernel_rfl) (by kernel_rfl) (fun _ _ _ h => h) (Or.inl ⟨by kernel_rfl, ?_⟩) hHeld ?_
      rotate_left
      · (intro w hSw; (try dsimp only at hSw); go_simp; all_goals (with_reducible rfl))
      try simp only [Act.put, List.setIfInBounds_toArray, List.set_cons_zero, List.set_cons_succ]
      refine wpAnyH_take (i := 1) (oi := { dst := some 46, op := Op.move (Operand.tmp 8), type := 33, pos := "law.go:94", after := #[], guard := none }) (v := ?_) rfl (by kernel_rfl) (by kernel_rfl) (by kernel_rfl) (fun _ _ _ h => h) (Or.inl ⟨by kernel_rfl, ?_⟩) hHeld ?_
      rotate_left
      · (intro w hSw; (try dsimp only at hSw); go_simp; all_goals (with_reducible rfl))
      try simp only [Act.put, List.setIfInBounds_toArray, List.set_cons_zero, List.set_cons_succ]
      refine wpAnyH_take (i := 2) (oi := { dst := some 47, op := Op.move (Operand.tmp 1), type := 32, pos := "law.go:94", after := #[], guard := none }) (v := ?_) rfl (by kernel_rfl) (by kernel_rfl) (by kernel_rfl) (fun _ _ _ h => h) (Or.inl ⟨by kernel_rfl, ?_⟩) hHeld ?_
      rotate_left
      · (intro w hSw; (try dsimp only at hSw); go_simp; all_goals (with_reducible rfl))
      try simp only [Act.put, List.setIfInBounds_toArray, List.set_cons_zero, List.set_cons_succ]
      refine wpAnyH_take (i := 3) (oi := { dst := some 48, op := Op.move (Operand.tmp 10), type := 3, pos := "law.go:94", after := #[], guard := none }) (v := ?_) rfl (by kernel_rfl) (by kernel_rfl) (by kernel_rfl) (fun _ _ _ h => h) (Or.inl ⟨by kernel_rfl, ?_⟩) hHeld ?_
      rotate_left
      · (intro w hSw; (try dsimp only at hSw); go_simp; all_goals (with_reducible rfl))
      try simp only [Act.put, List.setIfInBounds_toArray, List.set_cons_zero, List.set_cons_succ]
      refine wpAnyH_take (i := 4) (oi := { dst := some 49, op := Op.indexAddr 32 (Operand.tmp 47) (Operand.tmp 48), type := 0, pos := "law.go:94", after := #[{ on := 2, ground := Ground.data }, { on := 3, ground := Ground.data }], guard := none }) (v := ?_) rfl (by kernel_rfl) (by kernel_rfl) (by kernel_rfl) (fun _ _ _ h => h) (Or.inl ⟨by kernel_rfl, ?_⟩) hHeld ?_
      rotate_left
      · (intro w hSw; (try dsimp only at hSw); go_simp; all_goals (with_reducible rfl))
      try simp only [Act.put, List.setIfInBounds_toArray, List.set_cons_zero, List.set_cons_succ]
      refine wpAnyH_take (i := 5) (oi := { dst := some 50, op := Op.load 39 (Operand.tmp 49), type := 39, pos := "law.go:94", after := #[{ on := 4, ground := Ground.data }], guard := none }) (v := ?_) rfl (by kernel_rfl) (by kernel_rfl) (by kernel_rfl) (fun _ _ _ h => h) (Or.inl ⟨by kernel_rfl, ?_⟩) hHeld ?_
      rotate_left
      · (intro w hSw; (try dsimp only at hSw); go_simp; all_goals (with_reducible rfl))
      try simp only [Act.put, List.setIfInBounds_toArray, List.set_cons_zero, List.set_cons_succ]
      refine wpAnyH_ready (rs := [6]) (by kernel_rfl) (by simp) ?_
      refine AllReadyH.cons (o := { dst := some 51, op := Op.call { callee := Callee.value (Operand.func 19), args := #[Operand.tmp 45, Operand.tmp 46, Operand.tmp 50], argTypes := #[23, 33, 39] }, type := 4, pos := "law.go:94", after := #[{ on := 0, ground := Ground.data }, { on := 1, ground := Ground.data }, { on := 5, ground := Ground.data }], guard := none }) rfl (fun K hK => ?_) AllReadyH.nil
      go_simp
      go_at_call 19
      with_reducible refine Calls.mono J1.out ?_
      rintro r w5 ⟨rfl, F5, G5, h5⟩
      have HB5 := Lib.hid h5
      obtain ⟨gs5, cs5, lv5, hra, hfo⟩ := h5.kr
      obtain ⟨A5, cl5, hlv5⟩ := change_form hra.hl
      have lx : w5.cell? ⟨bx, 1, none⟩ = some (.slice A5 d'.pe.length cl5) := by rw [cellOf hra.hd 1, ← hlv5]; rfl
      have r0 := (h5.below.cell (p := ⟨g, off + k * 5 , none⟩) hg).trans q0
      have r1 := (h5.below.cell (p := ⟨g, off + k * 5 + 1, none⟩) hg).trans q1
      have r2 := (h5.below.cell (p := ⟨g, off + k * 5 + 2, none⟩) hg).trans q2
      have r3 := (h5.below.cell (p := ⟨g, off + k * 5 + 3, none⟩) hg).trans q3
      have r4 := (h5.below.cell (p := ⟨g, off + k * 5 + 4, none⟩) hg).trans q4
      have J2 := Lib.hid (pendingF h5.kd)
      have J3 := Lib.hid (sizeF h5.kd)
      clear h5 hra hfo hlv5 hHeld
      refine hK.out _ _ ⟨r0, r1, r2, r3, r4⟩ (fun hHeld => ?_)
      clear hK K
      try simp only [Act.put, List.setIfInBounds_toArray, List.set_cons_zero, List.set_cons_succ]
      refine wpAnyH_take (i := 7) (oi := { dst := some 52, op := Op.unOp UnOp.not 4 (Operand.tmp 51), type := 4, pos := "law.go:94", after := #[{ on := 6, ground := Ground.data }], guard := none }) (v := ?_) rfl (by kernel_rfl) (by kernel_rfl) (by kernel_rfl) (fun _ _ _ h => h) (Or.inl ⟨by kernel_rfl, ?_⟩) hHeld ?_
      rotate_left
      · (intro w hSw; (try dsimp only at hSw); go_simp; all_goals (with_reducible rfl))
      try simp only [Act.put, List.setIfInBounds_toArray, List.set_cons_zero, List.set_cons_succ]
      refine wpAnyH_take (i := 8) (oi := { dst := some 53, op := Op.move (Operand.tmp 52), type := 4, pos := "law.go:94", after := #[{ on := 7, ground := Ground.data }, { on := 6, ground := Ground.chain }], guard := none }) (v := ?_) rfl (by kernel_rfl) (by kernel_rfl) (by kernel_rfl) (fun _ _ _ h => h) (Or.inl ⟨by kernel_rfl, ?_⟩) hHeld ?_
      rotate_left
      · (intro w hSw; (try dsimp only at hSw); go_simp; all_goals (with_reducible rfl))
      try simp only [Act.put, List.setIfInBounds_toArray, List.set_cons_zero, List.set_cons_succ]
      refine wpAnyH_take (i := 9) (oi := { dst := some 54, op := Op.move (Operand.tmp 6), type := 23, pos := "law.go:94", after := #[{ on := 8, ground := Ground.guard }], guard := some (8, false) }) (v := ?_) rfl (by kernel_rfl) (by kernel_rfl) (by kernel_rfl) (fun _ _ _ h => h) (Or.inl ⟨by kernel_rfl, ?_⟩) hHeld ?_
      rotate_left
      · (intro w hSw; (try dsimp only at hSw); go_simp; all_goals (with_reducible rfl))
      try simp only [Act.put, List.setIfInBounds_toArray, List.set_cons_zero, List.set_cons_succ]
      refine wpAnyH_take (i := 11) (oi := { dst := some 56, op := Op.move (Operand.tmp 8), type := 33, pos := "law.go:94", after := #[{ on := 8, ground := Ground.guard }], guard := some (8, false) }) (v := ?_) rfl (by kernel_rfl) (by kernel_rfl) (by kernel_rfl) (fun _ _ _ h => h) (Or.inl ⟨by kernel_rfl, ?_⟩) hHeld ?_
      rotate_left
      · (intro w hSw; (try dsimp only at hSw); go_simp; all_goals (with_reducible rfl))
      try simp only [Act.put, List.setIfInBounds_toArray, List.set_cons_zero, List.set_cons_succ]
      refine wpAnyH_take (i := 12) (oi := { dst := some 57, op := Op.nilCheck (Operand.tmp 56), type := 0, pos := "law.go:94", after := #[{ on := 11, ground := Ground.data }, { on := 8, ground := Ground.guard }], guard := some (8, false) }) (v := ?_) rfl (by kernel_rfl) (by kernel_rfl) (by kernel_rfl) (fun _ _ _ h => h) (Or.inl ⟨by kernel_rfl, ?_⟩) hHeld ?_
      rotate_left
      · (intro w hSw; (try dsimp only at hSw); go_simp; all_goals (with_reducible rfl))
      try simp only [Act.put, List.setIfInBounds_toArray, List.set_cons_zero, List.set_cons_succ]
      refine wpAnyH_take (i := 13) (oi := { dst := some 58, op := Op.fieldAddr 43 (Operand.tmp 57) 1, type := 0, pos := "law.go:94", after := #[{ on := 12, ground := Ground.data }, { on := 8, ground := Ground.guard }], guard := some (8, false) }) (v := ?_) rfl (by kernel_rfl) (by kernel_rfl) (by kernel_rfl) (fun _ _ _ h => h) (Or.inl ⟨by kernel_rfl, ?_⟩) hHeld ?_
      rotate_left
      · (intro w hSw; (try dsimp only at hSw); go_simp; all_goals (with_reducible rfl))
      try simp only [Act.put, List.setIfInBounds_toArray, List.set_cons_zero, List.set_cons_succ]
      refine wpAnyH_ready (rs := [10, 14]) (by kernel_rfl) (by simp) ?_
      refine AllReadyH.cons (o := { dst := some 55, op := Op.call { callee := Callee.value (Operand.func 17), args := #[Operand.tmp 54], argTypes := #[23] }, type := 3, pos := "law.go:94", after := #[{ on := 9, ground := Ground.data }, { on := 8, ground := Ground.chain }, { on := 8, ground := Ground.guard }], guard := some (8, false) }) rfl (fun K hK => ?_) (AllReadyH.cons (o := { dst := some 59, op := Op.load 41 (Operand.tmp 58), type := 41, pos := "law.go:94", after := #[{ on := 13, ground := Ground.data }, { on := 8, ground := Ground.guard }], guard := some (8, false) }) rfl (fun K hK => ?_) AllReadyH.nil)
      · go_simp
        go_at_call 17
        with_reducible refine Calls.mono J2.out ?_
        rintro r w' ⟨rfl, rfl⟩
        refine hK.out _ _ ⟨r0, r1, r2, r3, r4⟩ (fun hHeld => ?_)
        clear hK K
        try simp only [Act.put, List.setIfInBounds_toArray, List.set_cons_zero, List.set_cons_succ]
        refine wpAnyH_ready (rs := [14]) (by kernel_rfl) (by simp) ?_
        refine AllReadyH.cons (o := { dst := some 59, op := Op.load 41 (Operand.tmp 58), type := 41, pos := "law.go:94", after := #[{ on := 13, ground := Ground.data }, { on := 8, ground := Ground.guard }], guard := some (8, false) }) rfl (fun K hK => ?_) AllReadyH.nil
        go_simp
        refine hK.out _ _ ⟨r0, r1, r2, r3, r4⟩ (fun hHeld => ?_)
        clear hK K
        try simp only [Act.put, List.setIfInBounds_toArray, List.set_cons_zero, List.set_cons_succ]
        refine wpAnyH_take (i := 15) (oi := { dst := some 60, op := Op.call { callee := Callee.builtin Builtin.len, args := #[Operand.tmp 59], argTypes := #[41] }, type := 3, pos := "law.go:94", after := #[{ on := 14, ground := Ground.data }, { on := 8, ground := Ground.guard }], guard := some (8, false) }) (v := ?_) rfl (by kernel_rfl) (by kernel_rfl) (by kernel_rfl) (fun _ _ _ h => h) (Or.inl ⟨by kernel_rfl, ?_⟩) hHeld ?_
        rotate_left
        · (intro w hSw; (try dsimp only at hSw); go_simp; all_goals (with_reducible rfl))
        try simp only [Act.put, List.setIfInBounds_toArray, List.set_cons_zero, List.set_cons_succ]
        refine wpAnyH_take (i := 16) (oi := { dst := some 61, op := Op.binOp BinOp.neq 3 (Operand.tmp 55) (Operand.tmp 60) 3, type := 4, pos := "law.go:94", after := #[{ on := 10, ground := Ground.data }, { on := 15, ground := Ground.data }, { on := 8, ground := Ground.guard }], guard := some (8, false) }) (v := ?_) rfl (by kernel_rfl) (by kernel_rfl) (by kernel_rfl) (fun _ _ _ h => h) (Or.inl ⟨by kernel_rfl, ?_⟩) hHeld ?_
        rotate_left
        · (intro w hSw; (try dsimp only at hSw); go_simp; all_goals (with_reducible rfl))
        try simp only [Act.put, List.setIfInBounds_toArray, List.set_cons_zero, List.set_cons_succ]
        refine wpAnyH_take (i := 17) (oi := { dst := some 62, op := Op.pick (Operand.tmp 53) (Operand.const (Value.bool true)) (Operand.tmp 61), type := 4, pos := "law.go:94", after := #[{ on := 8, ground := Ground.data }, { on := 16, ground := Ground.data }], guard := none }) (v := ?_) rfl (by kernel_rfl) (by kernel_rfl) (by kernel_rfl) (fun _ _ _ h => h) (Or.inl ⟨by kernel_rfl, ?_⟩) hHeld ?_
        rotate_left
        · (intro w hSw; (try dsimp only at hSw); go_simp; all_goals (with_reducible rfl))
        try simp only [Act.put, List.setIfInBounds_toArray, List.set_cons_zero, List.set_cons_succ]
        refine wpAnyH_take (i := 18) (oi := { dst := some 63, op := Op.move (Operand.tmp 62), type := 4, pos := "law.go:94", after := #[{ on := 17, ground := Ground.data }, { on := 10, ground := Ground.chain }], guard := none }) (v := ?_) rfl (by kernel_rfl) (by kernel_rfl) (by kernel_rfl) (fun _ _ _ h => h) (Or.inl ⟨by kernel_rfl, ?_⟩) hHeld ?_
        rotate_left
        · (intro w hSw; (try dsimp only at hSw); go_simp; all_goals (with_reducible rfl))
        try simp only [Act.put, List.setIfInBounds_toArray, List.set_cons_zero, List.set_cons_succ]
        refine wpAnyH_take (i := 19) (oi := { dst := some 64, op := Op.move (Operand.tmp 6), type := 23, pos := "law.go:94", after := #[{ on := 18, ground := Ground.guard }], guard := some (18, false) }) (v := ?_) rfl (by kernel_rfl) (by kernel_rfl) (by kernel_rfl) (fun _ _ _ h => h) (Or.inl ⟨by kernel_rfl, ?_⟩) hHeld ?_
        rotate_left
        · (intro w hSw; (try dsimp only at hSw); go_simp; all_goals (with_reducible rfl))
        try simp only [Act.put, List.setIfInBounds_toArray, List.set_cons_zero, List.set_cons_succ]
        refine wpAnyH_take (i := 21) (oi := { dst := some 66, op := Op.move (Operand.tmp 0), type := 3, pos := "law.go:94", after := #[{ on := 18, ground := Ground.guard }], guard := some (18, false) }) (v := ?_) rfl (by kernel_rfl) (by kernel_rfl) (by kernel_rfl) (fun _ _ _ h => h) (Or.inl ⟨by kernel_rfl, ?_⟩) hHeld ?_
        rotate_left
        · (intro w hSw; (try dsimp only at hSw); go_simp; all_goals (with_reducible rfl))
        try simp only [Act.put, List.setIfInBounds_toArray, List.set_cons_zero, List.set_cons_succ]
        refine wpAnyH_ready (rs := [20]) (by kernel_rfl) (by simp) ?_
        refine AllReadyH.cons (o := { dst := some 65, op := Op.call { callee := Callee.value (Operand.func 16), args := #[Operand.tmp 64], argTypes := #[23] }, type := 3, pos := "law.go:94", after := #[{ on := 19, ground := Ground.data }, { on := 18, ground := Ground.chain }, { on := 18, ground := Ground.guard }], guard := some (18, false) }) rfl (fun K hK => ?_) AllReadyH.nil
        go_simp
        go_at_call 16
        with_reducible refine Calls.mono J3.out ?_
        rintro r w' ⟨rfl, rfl⟩
        refine hK.out _ _ ⟨r0, r1, r2, r3, r4⟩ (fun hHeld => ?_)
        clear hK K
        try simp only [Act.put, List.setIfInBounds_toArray, List.set_cons_zero, List.set_cons_succ]
        refine wpAnyH_take (i := 22) (oi := { dst := some 67, op := Op.binOp BinOp.neq 3 (Operand.tmp 65) (Operand.tmp 66) 3, type := 4, pos := "law.go:94", after := #[{ on := 20, ground := Ground.data }, { on := 21, ground := Ground.data }, { on := 18, ground := Ground.guard }], guard := some (18, false) }) (v := ?_) rfl (by kernel_rfl) (by kernel_rfl) (by kernel_rfl) (fun _ _ _ h => h) (Or.inl ⟨by kernel_rfl, ?_⟩) hHeld ?_
        rotate_left
        · (intro w hSw; (try dsimp only at hSw); go_simp; all_goals (with_reducible rfl))
        try simp only [Act.put, List.setIfInBounds_toArray, List.set_cons_zero, List.set_cons_succ]
        refine wpAnyH_take (i := 23) (oi := { dst := some 68, op := Op.pick (Operand.tmp 63) (Operand.const (Value.bool true)) (Operand.tmp 67), type := 4, pos := "law.go:94", after := #[{ on := 18, ground := Ground.data }, { on := 22, ground := Ground.data }], guard := none }) (v := ?_) rfl (by kernel_rfl) (by kernel_rfl) (by kernel_rfl) (fun _ _ _ h => h) (Or.inl ⟨by kernel_rfl, ?_⟩) hHeld ?_
        rotate_left
        · (intro w hSw; (try dsimp only at hSw); go_simp; all_goals (with_reducible rfl))
        try simp only [Act.put, List.setIfInBounds_toArray, List.set_cons_zero, List.set_cons_succ]
        refine wpAnyH_done (by kernel_rfl) ?_ _
        go_wp2_with fail
        refine (HB5.out.dRead 0 n (by omega) (by omega)).mono ?_
        rintro r w' ⟨rfl, rfl⟩
        go_wp2_with fail
        refine (HB5.out.rRead 0 n (by omega) (by omega) (by omega)).mono ?_
        rintro r w6 ⟨rfl, h6⟩
        have HB6 := Lib.hid h6
        clear h6
        go_wp2_with fail
        go_roundw
        case rel => exact ⟨k + 1, d', F5, G5, by omega, by omega, by simp, by have := HD.out; omega, HB6.out⟩
        case measure => simp [intOf] <;> omega
      · go_simp
        refine hK.out _ _ ⟨r0, r1, r2, r3, r4⟩ (fun hHeld => ?_)
        clear hK K
        try simp only [Act.put, List.setIfInBounds_toArray, List.set_cons_zero, List.set_cons_succ]
        refine wpAnyH_take (i := 15) (oi := { dst := some 60, op := Op.call { callee := Callee.builtin Builtin.len, args := #[Operand.tmp 59], argTypes := #[41] }, type := 3, pos := "law.go:94", after := #[{ on := 14, ground := Ground.data }, { on := 8, ground := Ground.guard }], guard := some (8, false) }) (v := ?_) rfl (by kernel_rfl) (by kernel_rfl) (by kernel_rfl) (fun _ _ _ h => h) (Or.inl ⟨by kernel_rfl, ?_⟩) hHeld ?_
        rotate_left
        · (intro w hSw; (try dsimp only at hSw); go_simp; all_goals (with_reducible rfl))
        try simp only [Act.put, List.setIfInBounds_toArray, List.set_cons_zero, List.set_cons_succ]
        refine wpAnyH_ready (rs := [10]) (by kernel_rfl) (by simp) ?_
        refine AllReadyH.cons (o := { dst := some 55, op := Op.call { callee := Callee.value (Operand.func 17), args := #[Operand.tmp 54], argTypes := #[23] }, type := 3, pos := "law.go:94", after := #[{ on := 9, ground := Ground.data }, { on := 8, ground := Ground.chain }, { on := 8, ground := Ground.guard }], guard := some (8, false) }) rfl (fun K hK => ?_) AllReadyH.nil
        go_simp
        go_at_call 17
        with_reducible refine Calls.mono J2.out ?_
        rintro r w' ⟨rfl, rfl⟩
        refine hK.out _ _ ⟨r0, r1, r2, r3, r4⟩ (fun hHeld => ?_)
        clear hK K
        try simp only [Act.put, List.setIfInBounds_toArray, List.set_cons_zero, List.set_cons_succ]
        refine wpAnyH_take (i := 16) (oi := { dst := some 61, op := Op.binOp BinOp.neq 3 (Operand.tmp 55) (Operand.tmp 60) 3, type := 4, pos := "law.go:94", after := #[{ on := 10, ground := Ground.data }, { on := 15, ground := Ground.data }, { on := 8, ground := Ground.guard }], guard := some (8, false) }) (v := ?_) rfl (by kernel_rfl) (by kernel_rfl) (by kernel_rfl) (fun _ _ _ h => h) (Or.inl ⟨by kernel_rfl, ?_⟩) hHeld ?_
        rotate_left
        · (intro w hSw; (try dsimp only at hSw); go_simp; all_goals (with_reducible rfl))
        try simp only [Act.put, List.setIfInBounds_toArray, List.set_cons_zero, List.set_cons_succ]
        refine wpAnyH_take (i := 17) (oi := { dst := some 62, op := Op.pick (Operand.tmp 53) (Operand.const (Value.bool true)) (Operand.tmp 61), type := 4, pos := "law.go:94", after := #[{ on := 8, ground := Ground.data }, { on := 16, ground := Ground.data }], guard := none }) (v := ?_) rfl (by kernel_rfl) (by kernel_rfl) (by kernel_rfl) (fun _ _ _ h => h) (Or.inl ⟨by kernel_rfl, ?_⟩) hHeld ?_
        rotate_left
        · (intro w hSw; (try dsimp only at hSw); go_simp; all_goals (with_reducible rfl))
        try simp only [Act.put, List.setIfInBounds_toArray, List.set_cons_zero, List.set_cons_succ]
        refine wpAnyH_take (i := 18) (oi := { dst := some 63, op := Op.move (Operand.tmp 62), type := 4, pos := "law.go:94", after := #[{ on := 17, ground := Ground.data }, { on := 10, ground := Ground.chain }], guard := none }) (v := ?_) rfl (by kernel_rfl) (by kernel_rfl) (by kernel_rfl) (fun _ _ _ h => h) (Or.inl ⟨by kernel_rfl, ?_⟩) hHeld ?_
        rotate_left
        · (intro w hSw; (try dsimp only at hSw); go_simp; all_goals (with_reducible rfl))
        try simp only [Act.put, List.setIfInBounds_toArray, List.set_cons_zero, List.set_cons_succ]
        refine wpAnyH_take (i := 19) (oi := { dst := some 64, op := Op.move (Operand.tmp 6), type := 23, pos := "law.go:94", after := #[{ on := 18, ground := Ground.guard }], guard := some (18, false) }) (v := ?_) rfl (by kernel_rfl) (by kernel_rfl) (by kernel_rfl) (fun _ _ _ h => h) (Or.inl ⟨by kernel_rfl, ?_⟩) hHeld ?_
        rotate_left
        · (intro w hSw; (try dsimp only at hSw); go_simp; all_goals (with_reducible rfl))
        try simp only [Act.put, List.setIfInBounds_toArray, List.set_cons_zero, List.set_cons_succ]
        refine wpAnyH_take (i := 21) (oi := { dst := some 66, op := Op.move (Operand.tmp 0), type := 3, pos := "law.go:94", after := #[{ on := 18, ground := Ground.guard }], guard := some (18, false) }) (v := ?_) rfl (by kernel_rfl) (by kernel_rfl) (by kernel_rfl) (fun _ _ _ h => h) (Or.inl ⟨by kernel_rfl, ?_⟩) hHeld ?_
        rotate_left
        · (intro w hSw; (try dsimp only at hSw); go_simp; all_goals (with_reducible rfl))
        try simp only [Act.put, List.setIfInBounds_toArray, List.set_cons_zero, List.set_cons_succ]
        refine wpAnyH_ready (rs := [20]) (by kernel_rfl) (by simp) ?_
        refine AllReadyH.cons (o := { dst := some 65, op := Op.call { callee := Callee.value (Operand.func 16), args := #[Operand.tmp 64], argTypes := #[23] }, type := 3, pos := "law.go:94", after := #[{ on := 19, ground := Ground.data }, { on := 18, ground := Ground.chain }, { on := 18, ground := Ground.guard }], guard := some (18, false) }) rfl (fun K hK => ?_) AllReadyH.nil
        go_simp
        go_at_call 16
        with_reducible refine Calls.mono J3.out ?_
        rintro r w' ⟨rfl, rfl⟩
        refine hK.out _ _ ⟨r0, r1, r2, r3, r4⟩ (fun hHeld => ?_)
        clear hK K
        try simp only [Act.put, List.setIfInBounds_toArray, List.set_cons_zero, List.set_cons_succ]
        refine wpAnyH_take (i := 22) (oi := { dst := some 67, op := Op.binOp BinOp.neq 3 (Operand.tmp 65) (Operand.tmp 66) 3, type := 4, pos := "law.go:94", after := #[{ on := 20, ground := Ground.data }, { on := 21, ground := Ground.data }, { on := 18, ground := Ground.guard }], guard := some (18, false) }) (v := ?_) rfl (by kernel_rfl) (by kernel_rfl) (by kernel_rfl) (fun _ _ _ h => h) (Or.inl ⟨by kernel_rfl, ?_⟩) hHeld ?_
        rotate_left
        · (intro w hSw; (try dsimp only at hSw); go_simp; all_goals (with_reducible rfl))
        try simp only [Act.put, List.setIfInBounds_toArray, List.set_cons_zero, List.set_cons_succ]
        refine wpAnyH_take (i := 23) (oi := { dst := some 68, op := Op.pick (Operand.tmp 63) (Operand.const (Value.bool true)) (Operand.tmp 67), type := 4, pos := "law.go:94", after := #[{ on := 18, ground := Ground.data }, { on := 22, ground := Ground.data }], guard := none }) (v := ?_) rfl (by kernel_rfl) (by kernel_rfl) (by kernel_rfl) (fun _ _ _ h => h) (Or.inl ⟨by kernel_rfl, ?_⟩) hHeld ?_
        rotate_left
        · (intro w hSw; (try dsimp only at hSw); go_simp; all_goals (with_reducible rfl))
        try simp only [Act.put, List.setIfInBounds_toArray, List.set_cons_zero, List.set_cons_succ]
        refine wpAnyH_done (by kernel_rfl) ?_ _
        go_wp2_with fail
        refine (HB5.out.dRead 0 n (by omega) (by omega)).mono ?_
        rintro r w' ⟨rfl, rfl⟩
        go_wp2_with fail
        refine (HB5.out.rRead 0 n (by omega) (by omega) (by omega)).mono ?_
        rintro r w6 ⟨rfl, h6⟩
        have HB6 := Lib.hid h6
        clear h6
        go_wp2_with fail
        go_roundw
        case rel => exact ⟨k + 1, d', F5, G5, by omega, by omega, by simp, by have := HD.out; omega, HB6.out⟩
        case measure => simp [intOf] <;> omega
    · by_cases hl : k < len
      · have h60 : ¬ (k : Int) < 60 := by omega
        clear hlt
        go_wp2_with fail
        go_ret
        exact ⟨rfl, hB.out.below⟩
      · clear hlt
        go_wp2_with fail
        go_ret
        exact ⟨rfl, hB.out.below⟩
end Go.Proofs.Ytljgphmdiflphaa
