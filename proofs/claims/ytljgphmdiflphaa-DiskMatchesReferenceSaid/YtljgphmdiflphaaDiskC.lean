/- The disk: settle, Sync, Read, Cut, New, and the calls of Write that fail. -/
import Derived.Test.YtljgphmdiflphaaDiskB
namespace Go.Proofs.Ytljgphmdiflphaa
open Go.RowKit
set_option linter.unusedVariables false

theorem Try.zeroWrite : ∀ w, (zeroValue 69).run Try.prog w = .ok (.agg #[.int .i64 0, .string ByteArray.empty]) w := fun _ => by kernel_rfl

theorem own_ne {w : World} {t base size n : Nat} {v : Value} {xs : List Value} (h : w.ownsRow base t size v n xs) {b : Nat} {cs : Array Value} {u : TypeId} {fr : Nat × Nat} (hb : w.heap[b]? = some (.cells cs u fr)) (hn : t ≠ u) : v.ownBlock ≠ some b := by
  intro e
  rcases h.2 with ⟨e1, _⟩ | ⟨g, cap, cur, e1, _, hg, _⟩
  · rw [e1] at e; cases e
  · rw [e1] at e; injection e with e; subst e; exact ty_ne hg hb hn rfl

theorem settle_end {w w1 w2 : World} {bd g : Nat} {off : Bool} {left : Int} {x y pv pv' : Value} {m : List UInt8} {k : Nat} {xs' : List Value}
    (hd : w.heap[bd]? = some (.cells #[.bool off, .int .i64 left, x, y, pv] 65 (0, 0))) (hl : g < w.heap.size) (hgd : g ≠ bd) (hpd : pv.ownBlock ≠ some bd) (hpg : pv.ownBlock ≠ some g)
    (h1 : w1.heap[g]? = some (.cells (bytesV m).toArray 5 (0, 0))) (hU : w.grownBy w1 (some g)) (h2 : w2.ownsRow 0 69 2 pv k xs') (hU2 : w1.grownBy w2 pv.ownBlock)
    (hpv : (pv = .slice none 0 0 ∧ pv' = .slice none 0 0) ∨ ∃ gg cap, pv = .slice (some ⟨gg, 0, none⟩) k cap ∧ pv' = .slice (some ⟨gg, 0, none⟩) 0 cap) :
    ∃ pv'', (w2.setCell ⟨bd, 4, none⟩ pv').heap[bd]? = some (.cells #[.bool off, .int .i64 left, x, y, pv''] 65 (0, 0)) ∧ (w2.setCell ⟨bd, 4, none⟩ pv').heap[g]? = some (.cells (bytesV m).toArray 5 (0, 0)) ∧
      (w2.setCell ⟨bd, 4, none⟩ pv').ownsRow 0 69 2 pv'' 0 [] ∧ pv''.ownBlock = pv.ownBlock ∧ Upd (fun i => i = bd ∨ i = g ∨ pv.ownBlock = some i) w (w2.setCell ⟨bd, 4, none⟩ pv') := by
  have hlb := ltOf hd
  have hd2 : w2.heap[bd]? = some (.cells #[.bool off, .int .i64 left, x, y, pv] 65 (0, 0)) := by
    rw [hU2.block bd (Nat.lt_of_lt_of_le hlb hU.size) (fun e => hpd e.symm), hU.block bd hlb (fun e => hgd (by injection e with e; exact e.symm))]; exact hd
  refine ⟨pv', ?_, ?_, ?_, ?_, ?_⟩
  · rw [setOf_ hd2 4 _]; rfl
  · rw [setNe hgd, hU2.block g (Nat.lt_of_lt_of_le hl hU.size) (fun e => hpg e.symm)]; exact h1
  · have hk : (w2.setCell ⟨bd, 4, none⟩ pv').ownsRow 0 69 2 pv k xs' := h2.kept (Lib.grownBy_setCell w2 bd 4 _) (.inr hpd)
    rcases hpv with ⟨e1, e2⟩ | ⟨gg, cap, e1, e2⟩
    · rw [e2]; exact World.ownsRow_nil _ _ _ _
    · refine ⟨rfl, .inr ?_⟩
      rcases hk.2 with ⟨e, _⟩ | ⟨g', c', cur, e, hb, hg', hn, hc, hs, _⟩
      · rw [e1] at e; cases e
      · rw [e1] at e
        injection e with e3 e4 e5
        injection e3 with e3
        injection e3 with e3
        subst e3 e5
        exact ⟨gg, cap, cur, e2, Nat.zero_le _, hg', Nat.zero_le _, hc, hs, by simp⟩
  · rcases hpv with ⟨e1, e2⟩ | ⟨gg, cap, e1, e2⟩ <;> rw [e1, e2] <;> rfl
  · refine (((Upd.refl _ w).grown hU fun k e => ?_).grown hU2 fun k e => .inl (.inr (.inr e))).setCell _ _ (.inl (.inl rfl))
    injection e with e
    exact .inl (.inr (.inl e.symm))

set_option maxHeartbeats 800000 in
set_option maxRecDepth 100000 in
theorem settle_any {w : World} {bd g h n : Nat} {off : Bool} {left : Int} {x y pv : Value} {l m : List UInt8} {k : Nat} {xs : List Value}
    (hd : w.heap[bd]? = some (.cells #[.bool off, .int .i64 left, x, y, pv] 65 (0, 0))) (hg : w.heap[g]? = some (.cells (bytesV l).toArray 5 (0, 0)))
    (hh : w.heap[h]? = some (.cells (bytesV m).toArray 5 (0, 0))) (hl : l.length = n) (hm : m.length = n) (hp : w.ownsRow 0 69 2 pv k xs) :
    Calls Try.prog 37 #[.pointer (some ⟨bd, 0, none⟩), .slice (some ⟨h, 0, none⟩) n n, .slice (some ⟨g, 0, none⟩) n n] w fun e w' => e = .returned (.tuple #[]) ∧
      ∃ pv', w'.heap[bd]? = some (.cells #[.bool off, .int .i64 left, x, y, pv'] 65 (0, 0)) ∧ w'.heap[g]? = some (.cells (bytesV m).toArray 5 (0, 0)) ∧
        w'.ownsRow 0 69 2 pv' 0 [] ∧ pv'.ownBlock = pv.ownBlock ∧ Upd (fun i => i = bd ∨ i = g ∨ pv.ownBlock = some i) w w' := by
  have hgd : g ≠ bd := ty_ne hg hd (by decide)
  have hpd := own_ne hp hd (by decide)
  have hpg := own_ne hp hg (by decide)
  have hlg := ltOf hg
  have hlb := ltOf hd
  have HD := Lib.hid hd
  have HG := Lib.hid hg
  have HH := Lib.hid hh
  have HP := Lib.hid hp
  have HL := Lib.hid hl
  have HM := Lib.hid hm
  clear hd hg hh hp hl hm
  rcases HP.out.2 with ⟨e, e'⟩ | ⟨gg, cap, cur, e, _, _, hn, hcap, _⟩
  · subst e
    go_enter Try.func37, Try.ntmps37
    go_wp2_with (first
      | (with_reducible refine wpList_copy_rows rfl (.tmp 6) (.tmp 7) 40 40 rfl 5 Try.underlying40 Try.sz5 n g h n n rfl rfl l m 5 5 HG.out HH.out HL.out HM.out ?_
         intro w1 h1 hU
         have hd1 : w1.heap[bd]? = some (.cells #[.bool off, .int .i64 left, x, y, .slice none 0 0] 65 (0, 0)) := by
           rw [hU.out.block bd hlb (fun e => hgd (by injection e with e; exact e.symm))]; exact HD.out
         have hp1 : w1.ownsRow 0 69 2 (.slice none 0 0) k xs := HP.out.kept hU.out (.inr hpg)
         have c4 : w1.cell? ⟨bd, 4, none⟩ = some (.slice none 0 0) := cellOf hd1 4
         have HD1 := Lib.hid hd1
         have HP1 := Lib.hid hp1
         clear hd1 hp1)
      | (with_reducible refine wpList_clear_own rfl (.tmp 12) 63 rfl 0 69 2 Try.underlying63 _ Try.zeroWrite rfl (by simp [Value.cells, Value.oneCell']) (.slice none 0 0) k xs rfl (by assumption : Hid (World.ownsRow _ 0 69 2 (.slice none 0 0) k xs)).out ?_
         intro w2 xs' h2 hU2
         have hd2 : w2.heap[bd]? = some (.cells #[.bool off, .int .i64 left, x, y, .slice none 0 0] 65 (0, 0)) := by
           rw [hU2.out.block bd (ltOf HD1.out) (fun e => hpd e.symm)]; exact HD1.out
         have d4 : w2.cell? ⟨bd, 4, none⟩ = some (.slice none 0 0) := cellOf hd2 4
         have f4 : w2.frozen? ⟨bd, 4, none⟩ = false := frozenOf hd2 4
         clear hd2))
    go_end0
    exact ⟨rfl, settle_end HD.out hlg hgd hpd hpg h1.out hU.out h2.out hU2.out (.inl ⟨rfl, rfl⟩)⟩
  · subst e
    have hcap' : cap ≤ 9223372036854775807 := hcap
    clear hcap
    go_enter Try.func37, Try.ntmps37
    go_wp2_with (first
      | (with_reducible refine wpList_copy_rows rfl (.tmp 6) (.tmp 7) 40 40 rfl 5 Try.underlying40 Try.sz5 n g h n n rfl rfl l m 5 5 HG.out HH.out HL.out HM.out ?_
         intro w1 h1 hU
         have hd1 : w1.heap[bd]? = some (.cells #[.bool off, .int .i64 left, x, y, .slice (some ⟨gg, 0, none⟩) k cap] 65 (0, 0)) := by
           rw [hU.out.block bd hlb (fun e => hgd (by injection e with e; exact e.symm))]; exact HD.out
         have hp1 : w1.ownsRow 0 69 2 (.slice (some ⟨gg, 0, none⟩) k cap) k xs := HP.out.kept hU.out (.inr hpg)
         have c4 : w1.cell? ⟨bd, 4, none⟩ = some (.slice (some ⟨gg, 0, none⟩) k cap) := cellOf hd1 4
         have HD1 := Lib.hid hd1
         have HP1 := Lib.hid hp1
         clear hd1 hp1)
      | (with_reducible refine wpList_clear_own rfl (.tmp 12) 63 rfl 0 69 2 Try.underlying63 _ Try.zeroWrite rfl (by simp [Value.cells, Value.oneCell']) (.slice (some ⟨gg, 0, none⟩) k cap) k xs rfl (by assumption : Hid (World.ownsRow _ 0 69 2 (.slice (some ⟨gg, 0, none⟩) k cap) k xs)).out ?_
         intro w2 xs' h2 hU2
         have hd2 : w2.heap[bd]? = some (.cells #[.bool off, .int .i64 left, x, y, .slice (some ⟨gg, 0, none⟩) k cap] 65 (0, 0)) := by
           rw [hU2.out.block bd (ltOf HD1.out) (fun e => hpd e.symm)]; exact HD1.out
         have d4 : w2.cell? ⟨bd, 4, none⟩ = some (.slice (some ⟨gg, 0, none⟩) k cap) := cellOf hd2 4
         have f4 : w2.frozen? ⟨bd, 4, none⟩ = false := frozenOf hd2 4
         clear hd2))
    go_end0
    exact ⟨rfl, settle_end HD.out hlg hgd hpd hpg h1.out hU.out h2.out hU2.out (.inr ⟨gg, cap, rfl, rfl⟩)⟩

section
variable {w : World} {bd bu bv : Nat} {pv : Value} {n : Nat} {d : DV}

set_option maxHeartbeats 800000 in
theorem Sync_ok (h : DiskAt w bd bu bv pv n d) (ho : d.off = false) :
    Calls Try.prog 23 #[.pointer (some ⟨bd, 0, none⟩)] w fun e w' => e = .returned (.int .i64 0) ∧
      ∃ pv', DiskAt w' bd bu bv pv' n ⟨d.off, d.left, d.vi, d.vi, []⟩ ∧ Upd (Foot bd bu bv pv) w w' ∧ pv'.ownBlock = pv.ownBlock := by
  have c2 : w.cell? ⟨bd, 2, none⟩ = some (.slice (some ⟨bu, 0, none⟩) n n) := cellOf h.hd 2
  have c3 : w.cell? ⟨bd, 3, none⟩ = some (.slice (some ⟨bv, 0, none⟩) n n) := cellOf h.hd 3
  have H := Lib.hid h
  have HO := Lib.hid ho
  clear h ho
  go_enter Try.func23, Try.ntmps23
  go_wp2_with fail
  refine (check_ok H.out HO.out).mono ?_
  rintro e w' ⟨rfl, rfl⟩
  go_wp2_with fail
  go_region_held3 (fun w' => w'.cell? ⟨bd, 2, none⟩ = some (.slice (some ⟨bu, 0, none⟩) n n) ∧ w'.cell? ⟨bd, 3, none⟩ = some (.slice (some ⟨bv, 0, none⟩) n n)) (first | go_keep | exact ⟨k2, k3⟩)
    (first
      | (go_at_call 37
         refine (settle_any (w := w.drew) (bd := bd) (g := bu) (h := bv) (n := n) H.out.hd H.out.hu H.out.hv H.out.lu H.out.lv H.out.hp).mono ?_
         rintro e w2 ⟨rfl, pv', a1, a2, a3, a4, a5⟩
         have k2 : w2.cell? ⟨bd, 2, none⟩ = some (.slice (some ⟨bu, 0, none⟩) n n) := cellOf a1 2
         have k3 : w2.cell? ⟨bd, 3, none⟩ = some (.slice (some ⟨bv, 0, none⟩) n n) := cellOf a1 3
         have A1 := Lib.hid a1
         have A2 := Lib.hid a2
         have A4 := Lib.hid a4
         clear a1 a2 a4))
  go_wp2_with fail
  go_ret
  refine ⟨rfl, pv', ⟨A1.out, A2.out, ?_, a3, H.out.ne, H.out.lv, H.out.lv, H.out.lo, H.out.hi, H.out.l0, H.out.l1, by simp⟩, a5.of_drew.mono ?_, A4.out⟩
  · refine a5.of_drew.at H.out.hv ?_
    rintro (e | e | e)
    · exact ty_ne H.out.hv H.out.hd (by decide) e
    · exact H.out.ne e.symm
    · exact own_ne H.out.hp H.out.hv (by decide) e
  · rintro i _ (e | e | e)
    · exact .inl e
    · exact .inr (.inl e)
    · exact .inr (.inr (.inr e))

set_option maxHeartbeats 400000 in
theorem Sync_off (h : DiskAt w bd bu bv pv n d) (ho : d.off = true) :
    Calls Try.prog 23 #[.pointer (some ⟨bd, 0, none⟩)] w fun e w' => e = .returned (.int .i64 251) ∧ w = w' := by
  have H := Lib.hid h
  have HO := Lib.hid ho
  clear h ho
  go_enter Try.func23, Try.ntmps23
  go_wp2_with fail
  refine (check_off H.out HO.out).mono ?_
  rintro e w' ⟨rfl, rfl⟩
  go_wp2_with fail
  go_ret
  exact ⟨rfl, rfl⟩

set_option maxHeartbeats 400000 in
theorem Sync_nil (w : World) :
    Calls Try.prog 23 #[.pointer none] w fun e w' => e = .returned (.int .i64 1) ∧ w = w' := by
  go_enter Try.func23, Try.ntmps23
  go_wp2_with fail
  refine (check_nil _).mono ?_
  rintro e w' ⟨rfl, rfl⟩
  go_wp2_with fail
  go_ret
  exact ⟨rfl, rfl⟩

set_option maxHeartbeats 400000 in
theorem Read_ok (h : DiskAt w bd bu bv pv n d) (ho : d.off = false) (x m : Nat) (hx : x + m ≤ n) :
    Calls Try.prog 14 #[.pointer (some ⟨bd, 0, none⟩), .int .i64 (x : Int), .int .i64 (m : Int)] w fun e w' =>
      e = .returned (.tuple #[.string ⟨((d.vi.drop x).take m).toArray⟩, .int .i64 0]) ∧ w = w' := by
  have c3 : w.cell? ⟨bd, 3, none⟩ = some (.slice (some ⟨bv, 0, none⟩) n n) := cellOf h.hd 3
  have hnn : (n : Int) ≤ 9223372036854775807 := by have := h.hi; omega
  have h1 : (x : Int) ≤ n := by omega
  have h2 : (m : Int) ≤ n - x := by omega
  have h3 : x ≤ n := by omega
  have h4 : m ≤ n - x := by omega
  by_cases q : n = x
  · have hc : ∀ cap, (convert 40 9 (.slice (some ⟨bv, 0, none⟩) m cap)).run Try.prog w = .ok (.string ⟨((d.vi.drop x).take m).toArray⟩) w := fun cap => by
      have hm : m = 0 := by omega
      subst hm
      rw [run_conv_row 40 9 5 Try.underlying40 Try.underlying5 Try.underlying9 bv 0 0 cap d.vi _ h.hv (by omega)]
      simp
    have H := Lib.hid h
    have HO := Lib.hid ho
    clear h ho
    go_enter Try.func14, Try.ntmps14
    go_wp2_with fail
    refine (check_ok H.out HO.out).mono ?_
    rintro e w' ⟨rfl, rfl⟩
    go_wp2_with fail
    refine (inside_yes H.out _ _ (by omega) (by omega) h1 h2).mono ?_
    rintro e w' ⟨rfl, rfl⟩
    go_wp2_with fail
    go_ret2
    exact ⟨rfl, rfl⟩
  · have hc : ∀ cap, (convert 40 9 (.slice (some ⟨bv, x, none⟩) m cap)).run Try.prog w = .ok (.string ⟨((d.vi.drop x).take m).toArray⟩) w := fun cap =>
      run_conv_row 40 9 5 Try.underlying40 Try.underlying5 Try.underlying9 bv x m cap d.vi _ h.hv (by rw [h.lv]; exact hx)
    have H := Lib.hid h
    have HO := Lib.hid ho
    clear h ho
    go_enter Try.func14, Try.ntmps14
    go_wp2_with fail
    refine (check_ok H.out HO.out).mono ?_
    rintro e w' ⟨rfl, rfl⟩
    go_wp2_with fail
    refine (inside_yes H.out _ _ (by omega) (by omega) h1 h2).mono ?_
    rintro e w' ⟨rfl, rfl⟩
    go_wp2_with fail
    go_ret2
    exact ⟨rfl, rfl⟩

set_option maxHeartbeats 400000 in
theorem Read_off (h : DiskAt w bd bu bv pv n d) (ho : d.off = true) (x m : Int) :
    Calls Try.prog 14 #[.pointer (some ⟨bd, 0, none⟩), .int .i64 x, .int .i64 m] w fun e w' =>
      e = .returned (.tuple #[.string ⟨#[]⟩, .int .i64 251]) ∧ w = w' := by
  have H := Lib.hid h
  have HO := Lib.hid ho
  clear h ho
  go_enter Try.func14, Try.ntmps14
  go_wp2_with fail
  refine (check_off H.out HO.out).mono ?_
  rintro e w' ⟨rfl, rfl⟩
  go_wp2_with fail
  go_ret2
  exact ⟨rfl, rfl⟩

set_option maxHeartbeats 400000 in
theorem Read_nil (w : World) (x m : Int) :
    Calls Try.prog 14 #[.pointer none, .int .i64 x, .int .i64 m] w fun e w' =>
      e = .returned (.tuple #[.string ⟨#[]⟩, .int .i64 1]) ∧ w = w' := by
  go_enter Try.func14, Try.ntmps14
  go_wp2_with fail
  refine (check_nil _).mono ?_
  rintro e w' ⟨rfl, rfl⟩
  go_wp2_with fail
  go_ret2
  exact ⟨rfl, rfl⟩

set_option maxHeartbeats 400000 in
theorem Read_out (h : DiskAt w bd bu bv pv n d) (ho : d.off = false) (x m : Int) (hx : -9223372036854775808 ≤ x) (hm : -9223372036854775808 ≤ m) (h0 : ¬ (0 ≤ x ∧ 0 ≤ m ∧ x ≤ n ∧ m ≤ n - x)) :
    Calls Try.prog 14 #[.pointer (some ⟨bd, 0, none⟩), .int .i64 x, .int .i64 m] w fun e w' =>
      e = .returned (.tuple #[.string ⟨#[]⟩, .int .i64 250]) ∧ w = w' := by
  have H := Lib.hid h
  have HO := Lib.hid ho
  have H0 := Lib.hid h0
  clear h ho h0
  go_enter Try.func14, Try.ntmps14
  go_wp2_with fail
  refine (check_ok H.out HO.out).mono ?_
  rintro e w' ⟨rfl, rfl⟩
  go_wp2_with fail
  refine (inside_no H.out _ _ hx hm H0.out).mono ?_
  rintro e w' ⟨rfl, rfl⟩
  go_wp2_with fail
  go_ret2
  exact ⟨rfl, rfl⟩

set_option maxHeartbeats 400000 in
theorem Write_off (h : DiskAt w bd bu bv pv n d) (ho : d.off = true) (x : Int) (s : ByteArray) :
    Calls Try.prog 21 #[.pointer (some ⟨bd, 0, none⟩), .int .i64 x, .string s] w fun e w' => e = .returned (.int .i64 251) ∧ w = w' := by
  have H := Lib.hid h
  have HO := Lib.hid ho
  clear h ho
  go_enter Try.func21, Try.ntmps21
  go_wp2_with fail
  refine (check_off H.out HO.out).mono ?_
  rintro e w' ⟨rfl, rfl⟩
  go_wp2_with fail
  go_ret
  exact ⟨rfl, rfl⟩

set_option maxHeartbeats 400000 in
theorem Write_nil (w : World) (x : Int) (s : ByteArray) :
    Calls Try.prog 21 #[.pointer none, .int .i64 x, .string s] w fun e w' => e = .returned (.int .i64 1) ∧ w = w' := by
  go_enter Try.func21, Try.ntmps21
  go_wp2_with fail
  refine (check_nil _).mono ?_
  rintro e w' ⟨rfl, rfl⟩
  go_wp2_with fail
  go_ret
  exact ⟨rfl, rfl⟩

set_option maxHeartbeats 400000 in
theorem Write_out (h : DiskAt w bd bu bv pv n d) (ho : d.off = false) (x : Int) (s : ByteArray) (hs : s.size ≤ 9223372036854775807) (hx : -9223372036854775808 ≤ x) (h0 : ¬ (0 ≤ x ∧ x + s.size ≤ n)) :
    Calls Try.prog 21 #[.pointer (some ⟨bd, 0, none⟩), .int .i64 x, .string s] w fun e w' => e = .returned (.int .i64 250) ∧ w = w' := by
  have H := Lib.hid h
  have HO := Lib.hid ho
  have H0 := Lib.hid h0
  clear h ho h0
  go_enter Try.func21, Try.ntmps21
  go_wp2_with fail
  refine (check_ok H.out HO.out).mono ?_
  rintro e w' ⟨rfl, rfl⟩
  go_wp2_with fail
  refine (inside_no H.out _ _ hx (by omega) (fun h => H0.out (by omega))).mono ?_
  rintro e w' ⟨rfl, rfl⟩
  go_wp2_with fail
  go_ret
  exact ⟨rfl, rfl⟩

set_option maxHeartbeats 400000 in
theorem Cut_ok (h : DiskAt w bd bu bv pv n d) (ho : d.off = false) (x : Int) (h0 : 0 ≤ x) (h1 : x ≤ 9223372036854775807) :
    Calls Try.prog 24 #[.pointer (some ⟨bd, 0, none⟩), .int .i64 x] w fun e w' => e = .returned (.int .i64 0) ∧
      DiskAt w' bd bu bv pv n ⟨x == 0, x, d.du, d.vi, d.pe⟩ ∧ Upd (· = bd) w w' := by
  have c0 : w.cell? ⟨bd, 0, none⟩ = some (.bool d.off) := cellOf h.hd 0
  have c1 : w.cell? ⟨bd, 1, none⟩ = some (.int .i64 d.left) := cellOf h.hd 1
  have f0 : w.frozen? ⟨bd, 0, none⟩ = false := frozenOf h.hd 0
  have f1 : w.frozen? ⟨bd, 1, none⟩ = false := frozenOf h.hd 1
  have H := Lib.hid h
  have HO := Lib.hid ho
  clear h ho
  go_enter Try.func24, Try.ntmps24
  go_wp2_with fail
  refine (check_ok H.out HO.out).mono ?_
  rintro e w' ⟨rfl, rfl⟩
  go_wp2_with fail
  go_ret
  have U : Upd (· = bd) w ((w.setCell ⟨bd, 0, none⟩ (.bool (x == 0))).setCell ⟨bd, 1, none⟩ (.int .i64 x)) := ((Upd.refl (· = bd) w).setCell _ _ (.inl rfl)).setCell _ _ (.inl rfl)
  have hnu : bu ≠ bd := ty_ne H.out.hu H.out.hd (by decide)
  have hnv : bv ≠ bd := ty_ne H.out.hv H.out.hd (by decide)
  have hnp := own_ne H.out.hp H.out.hd (by decide)
  refine ⟨rfl, ⟨?_, U.at H.out.hu hnu, U.at H.out.hv hnv, ?_, H.out.ne, H.out.lu, H.out.lv, H.out.lo, H.out.hi, h0, h1, H.out.fit⟩, U⟩
  · rw [setOf_ (setOf_ H.out.hd 0 _) 1 _]; rfl
  · exact (H.out.hp.kept (Lib.grownBy_setCell w bd 0 _) (.inr hnp)).kept (Lib.grownBy_setCell _ bd 1 _) (.inr hnp)

set_option maxHeartbeats 400000 in
theorem Cut_off (h : DiskAt w bd bu bv pv n d) (ho : d.off = true) (x : Int) :
    Calls Try.prog 24 #[.pointer (some ⟨bd, 0, none⟩), .int .i64 x] w fun e w' => e = .returned (.int .i64 251) ∧ w = w' := by
  have H := Lib.hid h
  have HO := Lib.hid ho
  clear h ho
  go_enter Try.func24, Try.ntmps24
  go_wp2_with fail
  refine (check_off H.out HO.out).mono ?_
  rintro e w' ⟨rfl, rfl⟩
  go_wp2_with fail
  go_ret
  exact ⟨rfl, rfl⟩

set_option maxHeartbeats 400000 in
theorem Cut_nil (w : World) (x : Int) :
    Calls Try.prog 24 #[.pointer none, .int .i64 x] w fun e w' => e = .returned (.int .i64 1) ∧ w = w' := by
  go_enter Try.func24, Try.ntmps24
  go_wp2_with fail
  refine (check_nil _).mono ?_
  rintro e w' ⟨rfl, rfl⟩
  go_wp2_with fail
  go_ret
  exact ⟨rfl, rfl⟩

set_option maxHeartbeats 400000 in
theorem Cut_neg (h : DiskAt w bd bu bv pv n d) (ho : d.off = false) (x : Int) (h0 : x < 0) :
    Calls Try.prog 24 #[.pointer (some ⟨bd, 0, none⟩), .int .i64 x] w fun e w' => e = .returned (.int .i64 2) ∧ w = w' := by
  have H := Lib.hid h
  have HO := Lib.hid ho
  clear h ho
  go_enter Try.func24, Try.ntmps24
  go_wp2_with fail
  refine (check_ok H.out HO.out).mono ?_
  rintro e w' ⟨rfl, rfl⟩
  go_wp2_with fail
  go_ret
  exact ⟨rfl, rfl⟩

end
end Go.Proofs.Ytljgphmdiflphaa
