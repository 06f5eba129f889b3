/- The disk: contracts of the functions that write. -/
import Derived.Test.YtljgphmdiflphaaDiskA
import Derived.Deep.RegionHeld3
import Derived.Deep.AppendLies
import Derived.Deep.DeepCutAuto
namespace Go.Proofs.Ytljgphmdiflphaa
open Go.RowKit

theorem Try.sz5 : (Try.prog.info? 5).map (·.size) = some 1 := by kernel_rfl

/-- the world with the box of a write -/
theorem grown_upd {S : Nat → Prop} {w w' : World} {g : Nat} (h : w.grownBy w' (some g)) (hS : S g) : Upd S w w' :=
  (Upd.refl S w).grown h (fun k e => .inl (by injection e with e; subst e; exact hS))

set_option maxHeartbeats 400000 in
theorem onto_any (g p : Nat) (s : ByteArray) (l : List UInt8) (w : World) (hr : w.heap[g]? = some (.cells (bytesV l).toArray 5 (0, 0)))
    (n : Nat) (hn : l.length = n) (hs : p + s.size ≤ n) (hl : n ≤ 4194304) :
    Calls Try.prog 35 #[.agg #[.int .i64 (p : Int), .string s], .slice (some ⟨g, 0, none⟩) n n] w fun e w' =>
      e = .returned (.tuple #[]) ∧ w'.heap[g]? = some (.cells (bytesV (splice l p s.data.toList)).toArray 5 (0, 0)) ∧ Upd (· = g) w w' := by
  have hg := ltOf hr
  have HR := Lib.hid hr
  have HL := Lib.hid hn
  have q0 : (n : Int) ≤ 9223372036854775807 := by omega
  have q1 : p ≤ n := by omega
  have q3 : s.size ≤ n - p := by omega
  clear hr hn hl
  have U0 : ∀ o : Obj, Upd (· = g) w (w.alloc o).drew := fun o => ((Upd.refl _ w).alloc o).drew
  have UH := Lib.hid U0
  clear U0
  by_cases q2 : n = p
  · go_enter Try.func35, Try.ntmps35
    go_wp2
    go_region_law ((refine step_copy_str rfl (.tmp 7) (.tmp 9) 40 9 rfl 5 Try.underlying40 Try.sz5 _ _ _ (by rfl) s (by rfl) g p l 5 (by rw [show ∀ w : World, w.drew.heap = w.heap from fun _ => rfl, allocOld hg]; exact HR.out) (fun h => by first | rfl | omega) (by omega) (by rw [HL.out]; omega) ?_; intro w' h1 h2))
    all_goals (go_wp2; go_end0; exact ⟨rfl, h1.out, (UH.out _).grown h2.out (fun k e => .inl (by injection e with e; exact e.symm))⟩)
  · go_enter Try.func35, Try.ntmps35
    go_wp2
    go_region_law ((refine step_copy_str rfl (.tmp 7) (.tmp 9) 40 9 rfl 5 Try.underlying40 Try.sz5 _ _ _ (by rfl) s (by rfl) g p l 5 (by rw [show ∀ w : World, w.drew.heap = w.heap from fun _ => rfl, allocOld hg]; exact HR.out) (fun h => by first | rfl | omega) (by omega) (by rw [HL.out]; omega) ?_; intro w' h1 h2))
    all_goals (go_wp2; go_end0; exact ⟨rfl, h1.out, (UH.out _).grown h2.out (fun k e => .inl (by injection e with e; exact e.symm))⟩)

/-- the power and the cut behind a write -/
def usedOff (off : Bool) (left : Int) : Bool := if left = 0 then off else left - 1 == 0
def usedLeft (left : Int) : Int := if left = 0 then 0 else left - 1

set_option maxHeartbeats 400000 in
theorem used_any (bd : Nat) (off : Bool) (left : Int) (x y z : Value) (t : TypeId) (w : World) (hd : w.heap[bd]? = some (.cells #[.bool off, .int .i64 left, x, y, z] t (0, 0)))
    (h0 : 0 ≤ left) (h1 : left ≤ 9223372036854775807) :
    Calls Try.prog 36 #[.pointer (some ⟨bd, 0, none⟩)] w fun e w' =>
      e = .returned (.tuple #[]) ∧ w'.heap[bd]? = some (.cells #[.bool (usedOff off left), .int .i64 (usedLeft left), x, y, z] t (0, 0)) ∧ Upd (· = bd) w w' := by
  have c0 : w.cell? ⟨bd, 0, none⟩ = some (.bool off) := cellOf hd 0
  have c1 : w.cell? ⟨bd, 1, none⟩ = some (.int .i64 left) := cellOf hd 1
  have f0 : w.frozen? ⟨bd, 0, none⟩ = false := frozenOf hd 0
  have f1 : w.frozen? ⟨bd, 1, none⟩ = false := frozenOf hd 1
  have HD := Lib.hid hd
  clear hd
  by_cases h : left = 0
  · subst h
    go_enter Try.func36, Try.ntmps36
    go_wp2
    refine bodyPost_ret (results_none rfl _ _ _) rfl ?_
    exact ⟨rfl, HD.out, Upd.refl _ _⟩
  · have hb : (left == 0) = false := by simpa using h
    go_enter Try.func36, Try.ntmps36
    go_wp2
    go_end0
    refine ⟨rfl, ?_, ((Upd.refl (· = bd) w).setCell _ _ (.inl rfl)).setCell _ _ (.inl rfl)⟩
    rw [setOf_ (setOf_ HD.out 1 _) 0 _]
    simp [usedOff, usedLeft, h]

theorem Try.infoWrite : (Try.prog.info? 69).map (fun i => (i.zero, i.size, i.bytes)) = some (some (.agg #[.int .i64 0, .string ByteArray.empty]), 2, 24) := by kernel_rfl

/-- Between the two halves of a write: the write is pending, and not yet visible. -/
def WMid (w : World) (bd bu bv : Nat) (pv : Value) (n : Nat) (d : DV) (p : Nat) (s : ByteArray) (wx : World) : Prop :=
  ∃ gg cap, wx.ownsRow 0 69 2 (.slice (some ⟨gg, 0, none⟩) (d.pe.length + 1) cap) (d.pe.length + 1) (pendV d.pe ++ [.int .i64 (p : Int), .string s]) ∧
    wx.heap[bd]? = some (.cells #[.bool d.off, .int .i64 d.left, .slice (some ⟨bu, 0, none⟩) n n, .slice (some ⟨bv, 0, none⟩) n n, .slice (some ⟨gg, 0, none⟩) (d.pe.length + 1) cap] 65 (0, 0)) ∧
    wx.heap[w.heap.size]? = some (.cells #[.int .i64 (p : Int), .string s] 69 (0, 0)) ∧
    Upd (fun k => k = bd ∨ pv.ownBlock = some k) w wx ∧ (pv.ownBlock = some gg ∨ w.heap.size ≤ gg)

theorem wmid_of {w w1 : World} {bd bu bv : Nat} {pv : Value} {n : Nat} {d : DV} {p : Nat} {s : ByteArray} {gg cap : Nat} (h : DiskAt w bd bu bv pv n d) (hne : pv.ownBlock ≠ some bd) (hnw : pv.ownBlock ≠ some w.heap.size)
    (hown : w1.ownsRow 0 69 2 (.slice (some ⟨gg, 0, none⟩) (d.pe.length + 1) cap) (d.pe.length + 1) (pendV d.pe ++ [.int .i64 (p : Int), .string s]))
    (hgrow : ((w.alloc (.cells #[.int .i64 (p : Int), .string s] 69)).alloc (.cells #[.int .i64 (p : Int), .string s] 69)).drew.grownBy w1 pv.ownBlock)
    (hat : pv.ownBlock = some gg ∨ gg = w.heap.size + 2) :
    WMid w bd bu bv pv n d p s (w1.setCell ⟨bd, 4, none⟩ (.slice (some ⟨gg, 0, none⟩) (d.pe.length + 1) cap)) := by
  have hlt := ltOf h.hd
  have hb : w1.heap[bd]? = w.heap[bd]? := by
    rw [hgrow.block bd (by simp; omega) (fun e => hne e.symm), drewHeap, allocOld (by simp; omega), allocOld hlt]
  have hx : w1.heap[w.heap.size]? = some (.cells #[.int .i64 (p : Int), .string s] 69 (0, 0)) := by
    rw [hgrow.block w.heap.size (by simp; omega) (fun e => hnw e.symm), drewHeap, allocOld (by simp), allocAt _ rfl]
  have hg : gg ≠ bd := by
    rintro rfl
    rcases hat with e | e
    · exact hne e
    · omega
  refine ⟨gg, cap, ?_, ?_, ?_, ?_, ?_⟩
  · exact hown.kept (Lib.grownBy_setCell w1 bd 4 _) (.inr (by simpa [Value.ownBlock] using hg))
  · rw [setOf_ (hb.trans h.hd) 4 _]; rfl
  · rw [setNe (by omega)]; exact hx
  · exact ((((Upd.refl _ w).alloc _).alloc _).drew.grown hgrow (fun k e => .inl (.inr e))).setCell _ _ (.inl (.inl rfl))
  · rcases hat with e | e
    · exact .inl e
    · exact .inr (by omega)

theorem wmid_end {w wx w2 w3 : World} {bd bu bv : Nat} {pv : Value} {n : Nat} {d : DV} {p : Nat} {s : ByteArray} {gg cap : Nat} (h : DiskAt w bd bu bv pv n d) (hs : p + s.size ≤ n) (hne : pv.ownBlock ≠ some bd)
    (hown : wx.ownsRow 0 69 2 (.slice (some ⟨gg, 0, none⟩) (d.pe.length + 1) cap) (d.pe.length + 1) (pendV d.pe ++ [.int .i64 (p : Int), .string s]))
    (hU : Upd (fun k => k = bd ∨ pv.ownBlock = some k) w wx) (hat : pv.ownBlock = some gg ∨ w.heap.size ≤ gg)
    (h2 : w2.heap[bv]? = some (.cells (bytesV (splice d.vi p s.data.toList)).toArray 5 (0, 0))) (hU2 : Upd (· = bv) wx w2)
    (h3 : w3.heap[bd]? = some (.cells #[.bool (usedOff false d.left), .int .i64 (usedLeft d.left), .slice (some ⟨bu, 0, none⟩) n n, .slice (some ⟨bv, 0, none⟩) n n, .slice (some ⟨gg, 0, none⟩) (d.pe.length + 1) cap] 65 (0, 0)))
    (hU3 : Upd (· = bd) w2 w3) :
    ∃ pv', DiskAt w3 bd bu bv pv' n ⟨usedOff false d.left, usedLeft d.left, d.du, splice d.vi p s.data.toList, d.pe ++ [(p, s)]⟩ ∧
        Upd (Foot bd bu bv pv) w w3 ∧ (pv'.ownBlock = pv.ownBlock ∨ ∃ g, pv'.ownBlock = some g ∧ w.heap.size ≤ g) := by
  have hvd : bv ≠ bd := ty_ne h.hv h.hd (by decide)
  have hud : bu ≠ bd := ty_ne h.hu h.hd (by decide)
  have hlv := ltOf h.hv
  have hlu := ltOf h.hu
  have hpu : pv.ownBlock ≠ some bu := by
    intro e
    rcases h.hp.2 with ⟨e1, _⟩ | ⟨g, cap, cur, e1, _, hg, _⟩
    · rw [e1] at e; cases e
    · rw [e1] at e; injection e with e; subst e; exact ty_ne hg h.hu (by decide) rfl
  have hgrow' : ∀ g cap' cur, wx.heap[g]? = some (.cells cur 69 cap') → g ≠ bd ∧ g ≠ bv → w3.heap[g]? = wx.heap[g]? := fun g cap' cur hg ⟨h1, h2⟩ => by
    rw [hU3.block g (Nat.lt_of_lt_of_le (ltOf hg) hU2.size) h1, hU2.block g (ltOf hg) h2]
  refine ⟨_, ⟨h3, ?_, ?_, ?_, h.ne, h.lu, ?_, h.lo, h.hi, ?_, ?_, ?_⟩, ?_, ?_⟩
  · rw [hU3.block bu (Nat.lt_of_lt_of_le hlu (Nat.le_trans hU.size hU2.size)) hud, hU2.block bu (Nat.lt_of_lt_of_le hlu hU.size) h.ne, hU.block bu hlu (fun e => by rcases e with e | e; exact hud e; exact hpu e)]
    exact h.hu
  · rw [hU3.block bv (Nat.lt_of_lt_of_le hlv (Nat.le_trans hU.size hU2.size)) hvd]; exact h2
  · rw [pendV_append, List.length_append]
    refine ⟨hown.1, ?_⟩
    rcases hown.2 with ⟨e, _⟩ | ⟨g, c, cur, e, hb, hg, r⟩
    · cases e
    · refine .inr ⟨g, c, cur, e, hb, ?_, r⟩
      have hgg : gg = g := by injection e with e; injection e with e; injection e
      subst hgg
      rw [hgrow' gg _ _ hg ⟨?_, ?_⟩]
      · exact hg
      · rintro rfl
        rcases hat with e | e
        · exact hne e
        · have := ltOf h.hd; omega
      · rintro rfl
        rcases hat with e | e
        · rcases h.hp.2 with ⟨e1, _⟩ | ⟨g, cap, cur, e1, _, hg', _⟩
          · rw [e1] at e; cases e
          · rw [e1] at e; injection e with e; subst e; exact ty_ne hg' h.hv (by decide) rfl
        · omega
  · rw [length_splice]
    · exact h.lv
    · rw [← Lib.size_eq, h.lv]; exact hs
  · show 0 ≤ usedLeft d.left
    unfold usedLeft; have := h.l0; split <;> omega
  · show usedLeft d.left ≤ _
    unfold usedLeft; have := h.l1; have := h.l0; split <;> omega
  · intro q hq
    rcases List.mem_append.1 hq with hq | hq
    · exact h.fit q hq
    · obtain rfl := List.mem_singleton.1 hq
      exact hs
  · refine (((hU.mono (T := Foot bd bu bv pv) fun i _ e => ?_).trans hU2 fun i _ e => ?_).trans hU3 fun i _ e => ?_)
    · rcases e with e | e
      · exact .inl e
      · exact .inr (.inr (.inr e))
    · exact .inr (.inr (.inl e))
    · exact .inl e
  · rcases hat with e | e
    · exact .inl e.symm
    · exact .inr ⟨gg, rfl, e⟩

set_option maxRecDepth 100000 in
set_option maxHeartbeats 1600000 in
theorem Write_ok {w : World} {bd bu bv : Nat} {pv : Value} {n : Nat} {d : DV} (h : DiskAt w bd bu bv pv n d) (ho : d.off = false) (p : Nat) (s : ByteArray) (hs : p + s.size ≤ n) (hl : d.pe.length ≤ 1000000) :
    Calls Try.prog 21 #[.pointer (some ⟨bd, 0, none⟩), .int .i64 (p : Int), .string s] w fun e w' =>
      e = .returned (.int .i64 0) ∧ ∃ pv', DiskAt w' bd bu bv pv' n ⟨usedOff false d.left, usedLeft d.left, d.du, splice d.vi p s.data.toList, d.pe ++ [(p, s)]⟩ ∧
        Upd (Foot bd bu bv pv) w w' ∧ (pv'.ownBlock = pv.ownBlock ∨ ∃ g, pv'.ownBlock = some g ∧ w.heap.size ≤ g) := by
  obtain ⟨i0, hi0, hz0, hz1, hz2⟩ := info_parts Try.infoWrite
  have hlt := ltOf h.hd
  have c4 : w.cell? ⟨bd, 4, none⟩ = some pv := cellOf h.hd 4
  have c3 : w.cell? ⟨bd, 3, none⟩ = some (.slice (some ⟨bv, 0, none⟩) n n) := cellOf h.hd 3
  have f4 : w.frozen? ⟨bd, 4, none⟩ = false := frozenOf h.hd 4
  have hne : pv.ownBlock ≠ some bd := by
    intro e
    rcases h.hp.2 with ⟨e1, _⟩ | ⟨g, cap, cur, e1, _, hg, _⟩
    · rw [e1] at e; cases e
    · rw [e1] at e; injection e with e; subst e; exact absurd (hg.symm.trans h.hd) (by simp)
  have hnw : pv.ownBlock ≠ some w.heap.size := by
    intro e
    have := h.hp.lt _ e
    omega
  have Hown := Lib.hid h.hp
  have H := Lib.hid h
  have HO := Lib.hid ho
  have hlen : ((s.size : Nat) : Int) ≤ 9223372036854775807 := by have := h.hi; omega
  have hno : (p : Int) ≤ n := by omega
  have hns : (s.size : Int) ≤ n - p := by omega
  clear h ho
  go_enter Try.func21, Try.ntmps21
  go_wp2_with fail
  refine (check_ok H.out HO.out).mono ?_
  rintro e w' ⟨rfl, rfl⟩
  go_wp2_with fail
  refine (inside_yes H.out _ _ (by omega) (by omega) hno hns).mono ?_
  rintro e w' ⟨rfl, rfl⟩
  go_wp2_with fail
  go_cut [] (fun wx => WMid w bd bu bv pv n d p s wx)
  case first =>
    go_region_law (
      (refine step_append_lies _ (by rfl) _ _ _ (by rfl) 0 69 i0 _ 2 24 Try.underlying63 hi0 hz0 hz1 hz2 rfl (by omega) pv d.pe.length (pendV d.pe) (by rfl) (((Hown.out.alloc _).alloc _).drew) ⟨w.heap.size + 1, 0, none⟩ 1 1 [.int .i64 p, .string s] (by rfl) (by rfl) (World.news_of_block (cs := #[.int .i64 p, .string s]) (t := 69) (fr := (0, 0)) (by rw [drewHeap]; exact allocAt _ (by simp))) (by simp [Value.oneCell']) (by omega) (by simp only [maxLen]; omega) (by omega) (by simp) (w.heap.size + 2) (by simp) ?_
       intro gg cap w1 hown1 hgrow hat hlt1
       have ff1 : w1.frozen? ⟨bd, 4, none⟩ = false := by
         rw [hgrow.frozen_far ⟨bd, 4, none⟩ (by simp; omega) (Ne.symm hne), World.frozen?_drew, World.frozen?_alloc_past _ _ _ (by simp; omega), World.frozen?_alloc_past _ _ _ hlt]; exact f4
       have cc1 : w1.cell? ⟨bd, 4, none⟩ = some pv := by
         rw [hgrow.cell_far ⟨bd, 4, none⟩ (by simp; omega) (Ne.symm hne), World.cell?_drew, World.cell?_alloc_past _ _ _ (by simp; omega), World.cell?_alloc_past _ _ _ hlt]; exact c4))
    all_goals (go_wp2_with fail; go_meet; exact wmid_of H.out hne hnw hown1 hgrow hat)
  case rest =>
    obtain ⟨gg, cap, hown, hd, hx, hU, hat⟩ := hcut
    have hvd : bv ≠ bd := ty_ne H.out.hv H.out.hd (by decide)
    have hlv := ltOf H.out.hv
    have hpv : pv.ownBlock ≠ some bv := by
      intro e
      rcases H.out.hp.2 with ⟨e1, _⟩ | ⟨g, cap, cur, e1, _, hg, _⟩
      · rw [e1] at e; cases e
      · rw [e1] at e; injection e with e; subst e; exact ty_ne hg H.out.hv (by decide) rfl
    have hv := hU.block bv hlv (fun e => by rcases e with e | e; exact hvd e; exact hpv e)
    rw [H.out.hv] at hv
    have b0 : wc.cell? ⟨w.heap.size, 0, none⟩ = some (.int .i64 (p : Int)) := cellOf hx 0
    have b1 : wc.cell? ⟨w.heap.size, 1, none⟩ = some (.string s) := cellOf hx 1
    have b3 : wc.cell? ⟨bd, 3, none⟩ = some (.slice (some ⟨bv, 0, none⟩) n n) := cellOf hd 3
    have HV := Lib.hid hv
    have HD := Lib.hid hd
    have HX := Lib.hid hx
    have hlc := hU.size
    clear hv hd hx c4 c3 f4
    go_wp2_with fail
    go_region_held3 (fun w' => w'.cell? ⟨w.heap.size, 0, none⟩ = some (.int .i64 (p : Int)) ∧ w'.cell? ⟨w.heap.size, 1, none⟩ = some (.string s) ∧ w'.cell? ⟨bd, 3, none⟩ = some (.slice (some ⟨bv, 0, none⟩) n n))
      (first | go_keep | exact ⟨k0, k1, k3⟩)
      (first
        | (go_at_call 35
           refine (onto_any bv p s d.vi _ (by exact HV.out) n H.out.lv hs H.out.hi).mono ?_
           rintro e w2 ⟨rfl, h2, hU2⟩
           have k0 : w2.cell? ⟨w.heap.size, 0, none⟩ = some (.int .i64 (p : Int)) := hU2.cell (w := wc.drew) b0 (by simp; omega)
           have k1 : w2.cell? ⟨w.heap.size, 1, none⟩ = some (.string s) := hU2.cell (w := wc.drew) b1 (by simp; omega)
           have k3 : w2.cell? ⟨bd, 3, none⟩ = some (.slice (some ⟨bv, 0, none⟩) n n) := hU2.cell (w := wc.drew) b3 (by simp; omega)
           have hd2 := hU2.at (w := wc.drew) HD.out (Ne.symm hvd)
           have HD2 := Lib.hid hd2
           have H2 := Lib.hid h2
           have HU2 := Lib.hid hU2
           clear hd2 h2 hU2))
    go_wp2_with fail
    refine (used_any bd d.off d.left _ _ _ _ _ (by exact HD2.out) H.out.l0 H.out.l1).mono ?_
    rintro e w3 ⟨rfl, h3, hU3⟩
    have HD3 := Lib.hid h3
    have HU3 := Lib.hid hU3
    clear h3 hU3
    go_wp2_with fail
    go_ret
    refine ⟨rfl, ?_⟩
    have hd3 := HD3.out
    rw [HO.out] at hd3
    exact wmid_end H.out hs hne hown hU hat H2.out HU2.out.of_drew hd3 HU3.out

end Go.Proofs.Ytljgphmdiflphaa
