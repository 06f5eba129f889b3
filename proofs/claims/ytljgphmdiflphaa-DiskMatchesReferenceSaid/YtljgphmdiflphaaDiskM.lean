/- The disk: Crash itself. -/
import Derived.Test.YtljgphmdiflphaaDiskK
namespace Go.Proofs.Ytljgphmdiflphaa
open Go.RowKit
set_option linter.unusedVariables false

/-- the numbers that Crash goes through -/
def OrdAt (w : World) (base : Nat) (v : Value) (zs : List Int) : Prop :=
  ∃ A cap, v = .slice A zs.length cap ∧ ∀ j (h : j < zs.length), ∃ g, A = some ⟨g, 0, none⟩ ∧ base ≤ g ∧ w.cell? ⟨g, j, none⟩ = some (.int .i64 zs[j])

set_option maxHeartbeats 400000 in
theorem IndexFunc_nil (w : World) (fn : Nat) (b : Addr) :
    Calls Try.prog 48 #[.slice none 0 0, .func (.func fn) #[] #[.pointer (some b)]] w fun e w' => e = .returned (.int .i64 (-1)) ∧ w = w' := by
  go_enter Try.func48, Try.ntmps48
  go_wp2
  go_loop [8] (fun i => i = .int .i64 0) (fun i => 0)
  case atStart => rfl
  case round =>
    obtain rfl := hrel
    go_wp2
    go_ret
    exact ⟨rfl, rfl⟩

set_option maxHeartbeats 400000 in
theorem DeleteFunc_nil (w : World) (fn : Nat) (b : Addr) :
    Calls Try.prog 41 #[.slice none 0 0, .func (.func fn) #[] #[.pointer (some b)]] w fun e w' => e = .returned (.slice none 0 0) ∧ w = w' := by
  go_enter Try.func41, Try.ntmps41
  go_wp2_with fail
  refine (IndexFunc_nil w fn b).mono ?_
  rintro e w' ⟨rfl, rfl⟩
  go_wp2_with fail
  go_ret
  exact ⟨rfl, rfl⟩

theorem DeleteRow_any {w : World} {base : Nat} {v : Value} {zs : List Int} (h : RowV w base v zs) (hl : zs.length ≤ 4611686018427387904) (fn : Nat) (b : Addr) (p : Int → Bool)
    (ha : ∀ W, Upd (fun k => v.ownBlock = some k) w W → Answers W fn #[.pointer (some b)] p)
    (hen : ∀ args w, (callFunc fn args).run Try.prog w = .ok (.enter fn args) w) :
    Calls Try.prog 41 #[v, .func (.func fn) #[] #[.pointer (some b)]] w fun e w' => ∃ A cap, e = .returned (.slice A (zs.filter fun x => !p x).length cap) ∧
      OrdAt w' base (.slice A (zs.filter fun x => !p x).length cap) (zs.filter fun x => !p x) ∧ Upd (fun k => v.ownBlock = some k) w w' := by
  rcases h with ⟨rfl, rfl⟩ | ⟨g, cap, tl, rfl, hb, hg, ht, hc, hc6⟩
  · refine (DeleteFunc_nil w fn b).mono ?_
    rintro e w' ⟨rfl, rfl⟩
    exact ⟨none, 0, rfl, ⟨none, 0, rfl, fun j h => by simp at h⟩, Upd.refl _ _⟩
  · have hS : ∀ k, ((Value.slice (some ⟨g, 0, none⟩) zs.length cap).ownBlock = some k) = (k = g) := fun k => by
      simp only [Value.ownBlock, Option.some.injEq]; exact propext eq_comm
    have hS' : (fun k => (Value.slice (some ⟨g, 0, none⟩) zs.length cap).ownBlock = some k) = (· = g) := funext hS
    rw [hS'] at ha ⊢
    refine (DeleteFunc_any w g cap zs tl fn b p hl hc ht hc6 hg ha hen).mono ?_
    rintro e w' ⟨rfl, h1, h2⟩
    exact ⟨_, _, rfl, ⟨_, _, rfl, fun j h => ⟨g, rfl, hb, h1 j h⟩⟩, h2⟩

theorem pendV_get {l : List (Nat × ByteArray)} {i : Nat} (h : i < l.length) : (pendV l)[i * 2]? = some (.int .i64 (l[i].1 : Int)) ∧ (pendV l)[i * 2 + 1]? = some (.string l[i].2) := by
  induction l generalizing i with
  | nil => simp at h
  | cons x l ih =>
    have e : pendV (x :: l) = .int .i64 (x.1 : Int) :: .string x.2 :: pendV l := by simp [pendV]
    rw [e]
    cases i with
    | zero => simp
    | succ i =>
      have := ih (i := i) (by simpa using h)
      rw [show (i + 1) * 2 = i * 2 + 1 + 1 by omega]
      simpa using this

theorem pend_cell {w : World} {pv : Value} {l : List (Nat × ByteArray)} (h : w.ownsRow 0 69 2 pv l.length (pendV l)) {i : Nat} (hi : i < l.length) :
    ∃ g cap, pv = .slice (some ⟨g, 0, none⟩) l.length cap ∧ g < w.heap.size ∧ w.cell? ⟨g, i * 2, none⟩ = some (.int .i64 (l[i].1 : Int)) ∧ w.cell? ⟨g, i * 2 + 1, none⟩ = some (.string l[i].2) := by
  rcases h.2 with ⟨e, e'⟩ | ⟨g, cap, cur, e, hb, hg, hn, hc, hs, htk⟩
  · omega
  · have hx := pendV_get hi
    refine ⟨g, cap, e, ltOf hg, ?_, ?_⟩
    · rw [cellOf hg, ← hx.1, ← htk, List.getElem?_take, if_pos (by omega)]; simp
    · rw [cellOf hg, ← hx.2, ← htk, List.getElem?_take, if_pos (by omega)]; simp

theorem DiskAt.foot_lt {w : World} {bd bu bv : Nat} {pv : Value} {n : Nat} {d : DV} (h : DiskAt w bd bu bv pv n d) {k : Nat} (hf : Foot bd bu bv pv k) : k < w.heap.size := by
  rcases hf with rfl | rfl | rfl | e
  · exact ltOf h.hd
  · exact ltOf h.hu
  · exact ltOf h.hv
  · exact (h.hp.lt _ e).2

theorem DiskAt.putDu {w w' : World} {bd bu bv : Nat} {pv : Value} {n : Nat} {d : DV} (h : DiskAt w bd bu bv pv n d) {l : List UInt8} (hl : l.length = n) (hw : w'.heap[bu]? = some (.cells (bytesV l).toArray 5 (0, 0)))
    (hU : Upd (· = bu) w w') : DiskAt w' bd bu bv pv n { d with du := l } := by
  have hud : bu ≠ bd := ty_ne h.hu h.hd (by decide)
  have hpu := own_ne h.hp h.hu (by decide)
  refine ⟨hU.at h.hd (Ne.symm hud), hw, hU.at h.hv (Ne.symm h.ne), ?_, h.ne, hl, h.lv, h.lo, h.hi, h.l0, h.l1, h.fit⟩
  refine ⟨h.hp.1, ?_⟩
  rcases h.hp.2 with e | ⟨g, cap, cur, e, hb, hg, r⟩
  · exact .inl e
  · refine .inr ⟨g, cap, cur, e, hb, hU.at hg ?_, r⟩
    rintro rfl
    exact hpu (by rw [e]; rfl)

/-- the k-th surviving write as it is applied -/
theorem tornW_get {ws : List (Nat × ByteArray)} {torn : Int} {k : Nat} (h : k < ws.length) : (tornW ws torn)[k]? = some (if k + 1 = ws.length ∧ 0 ≤ torn then (ws[k].1, takeB ws[k].2 torn.toNat) else ws[k]) := by
  simp [tornW, h]
theorem tornW_length (ws : List (Nat × ByteArray)) (torn : Int) : (tornW ws torn).length = ws.length := by simp [tornW]
theorem applyW_take_succ {b : List UInt8} {ws : List (Nat × ByteArray)} {k : Nat} {p : Nat × ByteArray} (h : ws[k]? = some p) : applyW b (ws.take (k + 1)) = splice (applyW b (ws.take k)) p.1 p.2.data.toList := by
  rw [List.take_add_one, h]; exact applyW_snoc _ _ _
theorem survW_get {pe : List (Nat × ByteArray)} {keep : List Int} {k : Nat} (h : k < (survN keep pe.length).length) : ∃ i, ∃ hi : i < pe.length, (survN keep pe.length)[k]? = some i ∧ (survW pe keep)[k]? = some pe[i] := by
  refine ⟨(survN keep pe.length)[k], survN_lt (List.getElem_mem h), by simp [h], ?_⟩
  have hi := survN_lt (List.getElem_mem h)
  simp [survW, h, hi]
theorem survW_length (pe : List (Nat × ByteArray)) (keep : List Int) : (survW pe keep).length = (survN keep pe.length).length := by simp [survW]
theorem IntsAt.up {n₀ n₁ : Nat} {w w' : World} {sv : Value} {zs : List Int} (h : IntsAt n₀ w sv zs) (hU : Upd (fun _ => False) w w') (hn : n₀ ≤ w.heap.size) (h1 : n₀ ≤ n₁) : IntsAt n₁ w' sv zs := by
  rcases h with e | ⟨b, off, cap, e, hb, hc⟩
  · exact .inl e
  · exact .inr ⟨b, off, cap, e, by omega, fun j hj => hU.cell (hc j hj) (fun f => f)⟩
theorem RowV.own_ge {w : World} {base : Nat} {v : Value} {zs : List Int} (h : RowV w base v zs) {k : Nat} (e : v.ownBlock = some k) : base ≤ k := by
  rcases h with ⟨rfl, _⟩ | ⟨g, cap, tl, rfl, hb, _⟩
  · cases e
  · simp only [Value.ownBlock, Option.some.injEq] at e; omega

theorem crash_row {W : World} {base len cap : Nat} {A : Option Addr} {pe : List (Nat × ByteArray)} {keep : List Int} (h : OrdAt W base (.slice A len cap) (ordOf keep pe.length)) :
    len = (survN keep pe.length).length ∧ ∀ j, j < len → ∃ g i, ∃ hi : i < pe.length, A = some ⟨g, 0, none⟩ ∧ base ≤ g ∧ W.cell? ⟨g, j, none⟩ = some (.int .i64 (i : Int)) ∧ (survW pe keep)[j]? = some pe[i] := by
  obtain ⟨A', cap', e, hc⟩ := h
  have hl : (ordOf keep pe.length).length = (survN keep pe.length).length := by rw [ordOf_eq, List.length_map]
  injection e with e1 e2 e3
  subst e1
  refine ⟨by omega, fun j hj => ?_⟩
  obtain ⟨g, hA, hb, hcell⟩ := hc j (by omega)
  obtain ⟨i, hi, h1, h2⟩ := survW_get (pe := pe) (keep := keep) (k := j) (by omega)
  refine ⟨g, i, hi, hA, hb, ?_, h2⟩
  rw [hcell]
  have : (ordOf keep pe.length)[j]? = some (i : Int) := by rw [ordOf_eq, List.getElem?_map, h1]; rfl
  rw [List.getElem?_eq_getElem (by omega)] at this
  rw [Option.some.inj this]
theorem survN_length_le (keep : List Int) (m : Nat) : (survN keep m).length ≤ m := by
  have := List.length_filter_le (fun i => decide (((i : Nat) : Int) ∈ keep)) (List.range m)
  rw [List.length_range] at this; exact this

theorem tornW_some {ws : List (Nat × ByteArray)} {torn : Int} {k : Nat} {q : Nat × ByteArray} (h : ws[k]? = some q) : (tornW ws torn)[k]? = some (if k + 1 = ws.length ∧ 0 ≤ torn then (q.1, takeB q.2 torn.toNat) else q) := by
  obtain ⟨hk, e⟩ := List.getElem?_eq_some_iff.1 h
  rw [tornW_get hk, e]
theorem crash_round {wr w2 : World} {bd bu bv : Nat} {pv : Value} {n k p : Nat} {d : DV} {T : List (Nat × ByteArray)} {s : ByteArray} (h : DiskAt wr bd bu bv pv n { d with du := applyW d.du (T.take k) }) (hT : T[k]? = some (p, s))
    (h2 : w2.heap[bu]? = some (.cells (bytesV (splice (applyW d.du (T.take k)) p s.data.toList)).toArray 5 (0, 0))) (hU : Upd (· = bu) wr w2) (hf : p + s.size ≤ n) :
    DiskAt w2 bd bu bv pv n { d with du := applyW d.du (T.take (k + 1)) } := by
  rw [applyW_take_succ hT]
  refine h.putDu (l := splice (applyW d.du (T.take k)) p s.data.toList) ?_ h2 hU
  rw [length_splice]
  · exact h.lu
  · rw [← Lib.size_eq, h.lu]; exact hf

theorem extract_takeB (s : ByteArray) (torn : Int) (h : 0 ≤ torn) : s.extract 0 (min torn (s.size : Int)).toNat = takeB s torn.toNat := by
  apply ByteArray.ext
  apply Array.ext'
  simp only [takeB, ByteArray.data_extract, Array.toList_extract, List.extract_eq_take_drop, List.drop_zero, Nat.sub_zero]
  have hs : s.size = s.data.toList.length := Lib.size_eq s
  rcases Nat.lt_or_ge torn.toNat s.size with h1 | h1
  · rw [show (min torn (s.size : Int)).toNat = torn.toNat by omega]
  · rw [List.take_of_length_le (by omega), List.take_of_length_le (by omega)]

section
variable {w : World} {bd bu bv : Nat} {pv : Value} {n : Nat} {d : DV}

/-- What Crash leaves. -/
def crashed (d : DV) (keep : List Int) (torn : Int) : DV := ⟨false, 0, applyW d.du (tornW (survW d.pe keep) torn), applyW d.du (tornW (survW d.pe keep) torn), []⟩

/-- Behind the choice of the survivors. -/
def CrashMid (w : World) (bd : Nat) (m : Nat) (zs : List Int) (v : Value) (wx : World) : Prop :=
  ∃ A cap, v = .slice A m cap ∧ (∀ j (h : j < zs.length), ∃ g, A = some ⟨g, 0, none⟩ ∧ w.heap.size ≤ g ∧ wx.cell? ⟨g, j, none⟩ = some (.int .i64 zs[j])) ∧
    Upd (fun _ => False) w wx ∧ wx.cell? ⟨w.heap.size, 0, none⟩ = some (.pointer (some ⟨bd, 0, none⟩)) ∧ w.heap.size < wx.heap.size

set_option maxRecDepth 100000 in
set_option maxHeartbeats 1600000 in
theorem Crash_ok (h : DiskAt w bd bu bv pv n d) (keep : List Int) (ka : Option Addr) (kl kc : Nat) (hI : IntsAt w.heap.size w (.slice ka kl kc) keep) (hk : keep.length ≤ 100000000) (hm : d.pe.length ≤ 2000000) (torn : Int)
    (ht0 : -9223372036854775808 ≤ torn) (ht1 : torn ≤ 9223372036854775807) :
    Calls Try.prog 25 #[.pointer (some ⟨bd, 0, none⟩), .slice ka kl kc, .int .i64 torn] w fun e w' => e = .returned (.int .i64 0) ∧
      ∃ pv', DiskAt w' bd bu bv pv' n (crashed d keep torn) ∧ Upd (Foot bd bu bv pv) w w' ∧ pv'.ownBlock = pv.ownBlock := by
  have hlt := ltOf h.hd
  have H := Lib.hid h
  have HI := Lib.hid hI
  clear h hI
  go_enter Try.func25, Try.ntmps25
  go_wp2_with fail
  refine (Values_any ka kl kc _).mono ?_
  rintro e w' ⟨rfl, rfl⟩
  go_wp2_with fail
  have U1 : Upd (fun _ => False) w ((w.alloc (.cells #[.pointer (some ⟨bd, 0, none⟩)] 23)).alloc (.cells #[.slice ka kl kc] 37)) := ((Upd.refl _ w).alloc _).alloc _
  have hsz : w.heap.size + 2 = ((w.alloc (.cells #[.pointer (some ⟨bd, 0, none⟩)] 23)).alloc (.cells #[.slice ka kl kc] 37)).heap.size := by simp
  have hB1 : ((w.alloc (.cells #[.pointer (some ⟨bd, 0, none⟩)] 23)).alloc (.cells #[.slice ka kl kc] 37)).cell? ⟨w.heap.size, 0, none⟩ = some (.pointer (some ⟨bd, 0, none⟩)) := by
    rw [cellOf (cs := #[.pointer (some ⟨bd, 0, none⟩)]) (t := 23) (fr := (0, 0)) (by rw [allocOld (by simp), allocAt _ rfl])]; rfl
  have hS := Sorted_any (w.heap.size + 1) (.slice ka kl kc) keep hk ((w.alloc (.cells #[.pointer (some ⟨bd, 0, none⟩)] 23)).alloc (.cells #[.slice ka kl kc] 37)) (by simp) (by rw [cellOf (cs := #[.slice ka kl kc]) (t := 37) (fr := (0, 0)) (by rw [allocAt _ (by simp)])]; rfl) (HI.out.up U1 (Nat.le_refl _) (by simp; omega))
  rw [← hsz] at hS
  have HS := Lib.hid hS
  generalize ((w.alloc (.cells #[.pointer (some ⟨bd, 0, none⟩)] 23)).alloc (.cells #[.slice ka kl kc] 37)) = W0 at *
  have HB1 := Lib.hid hB1
  have HZ := Lib.hid hsz
  clear hS hB1 hsz
  go_wp2_with fail
  refine HS.out.mono ?_
  rintro e W1 ⟨v1, rfl, r1, b1⟩
  have R1 := Lib.hid r1
  have B1 := Lib.hid b1
  clear r1 b1
  go_wp2_with fail
  refine (Compact_any R1.out).mono ?_
  rintro e W2 ⟨v2, rfl, r2, u2⟩
  have hU2 : Upd (fun _ => False) w W2 := (U1.trans (T := fun _ => False) (Upd.of_below (by rw [← HZ.out]; exact B1.out)) (fun _ _ e => e)).trans u2 (fun i hi e => by have := R1.out.own_ge e; omega)
  have hB2 : W2.cell? ⟨w.heap.size, 0, none⟩ = some (.pointer (some ⟨bd, 0, none⟩)) :=
    u2.cell ((B1.out.cell (by show w.heap.size < _; omega)).trans HB1.out) (fun e => by have := R1.out.own_ge e; simp at this; omega)
  have R2 := Lib.hid r2
  have HB2 := Lib.hid hB2
  have HU2 := Lib.hid hU2
  clear r2 hB2 hU2 u2
  have hlen2 : (Lib.compact (keep.mergeSort fun x y => decide (x ≤ y))).length ≤ 4611686018427387904 := by
    have := Lib.compact_length_le (keep.mergeSort fun x y => decide (x ≤ y)); rw [List.length_mergeSort] at this; omega
  have hD := DeleteRow_any R2.out hlen2 42 ⟨w.heap.size, 0, none⟩ (outB d.pe.length) (fun W hW i => crash1_any (H.out.upd (HU2.out.trans hW (fun i hi e => by have := R2.out.own_ge e; omega)) (fun _ _ f => f)) w.heap.size (hW.cell HB2.out (fun e => by have := R2.out.own_ge e; simp at this; omega)) i)
    (enters_of Try.func42 (by kernel_rfl) rfl)
  have HD := Lib.hid hD
  clear hD
  go_wp2_with fail
  refine HD.out.mono ?_
  rintro e W3 ⟨A, cap, rfl, h3, u3⟩
  generalize hmm : (List.filter (fun x => !outB d.pe.length x) (Lib.compact (keep.mergeSort fun x y => decide (x ≤ y)))).length = m at h3 ⊢
  obtain ⟨hlm, hrow⟩ := crash_row (pe := d.pe) (keep := keep) h3
  have hU3 : Upd (fun _ => False) w W3 := HU2.out.trans u3 (fun i hi e => by have := R2.out.own_ge e; omega)
  have hB3 : W3.cell? ⟨w.heap.size, 0, none⟩ = some (.pointer (some ⟨bd, 0, none⟩)) := u3.cell HB2.out (fun e => by have := R2.out.own_ge e; simp at this; omega)
  have hlt3 : w.heap.size < W3.heap.size := World.block_lt_of_cell? W3 _ hB3
  have HB3 := Lib.hid hB3
  have HU3 := Lib.hid hU3
  have HR := Lib.hid hrow
  have hmle : m ≤ 2000000 := by rw [hlm]; exact Nat.le_trans (survN_length_le _ _) hm
  have HL := Lib.hid hlm
  clear hrow hB3 hU3 u3 h3 hmm hlm HD HS HZ U1 R1 B1 HB1 HB2 HU2 R2
  go_wp2_with fail
  go_loopw [22] (fun vi wr => ∃ k : Nat, k ≤ m ∧ vi = .int .i64 k ∧ Hid (DiskAt wr bd bu bv pv n { d with du := applyW d.du ((tornW (survW d.pe keep) torn).take k) }) ∧ Hid (Upd (· = bu) W3 wr)) (fun vi _ => m - (intOf vi).toNat)
  case atStart => exact ⟨0, Nat.zero_le _, rfl, H.out.upd HU3.out (fun _ _ f => f), Upd.refl _ _⟩
  case round =>
    obtain ⟨k, hkm, rfl, HW, HUW⟩ := hrel
    have hbu : bu < w.heap.size := ltOf H.out.hu
    have cB : wr.cell? ⟨w.heap.size, 0, none⟩ = some (.pointer (some ⟨bd, 0, none⟩)) := HUW.out.cell HB3.out (fun e => by simp at e; omega)
    have c2 : wr.cell? ⟨bd, 2, none⟩ = some (.slice (some ⟨bu, 0, none⟩) n n) := cellOf HW.out.hd 2
    have c3 : wr.cell? ⟨bd, 3, none⟩ = some (.slice (some ⟨bv, 0, none⟩) n n) := cellOf HW.out.hd 3
    by_cases hlt : k < m
    · obtain ⟨g, i, hi, hA, hb, hcell, hsv⟩ := HR.out k hlt
      have c1 : wr.cell? ⟨g, k, none⟩ = some (.int .i64 (i : Int)) := HUW.out.cell hcell (fun e => by simp at e; omega)
      obtain ⟨gp, capp, hpv, hgp, p0, p1⟩ := pend_cell HW.out.hp hi
      have c4 : wr.cell? ⟨bd, 4, none⟩ = some (.slice (some ⟨gp, 0, none⟩) d.pe.length capp) := by rw [← hpv]; exact cellOf HW.out.hd 4
      subst hA
      have hfit := HW.out.fit _ (List.getElem_mem hi)
      generalize hps : d.pe[i] = ps at *
      obtain ⟨p, s⟩ := ps
      simp only at p0 p1 hfit
      have HS := Lib.hid hsv
      clear hcell hps hsv hpv
      have hTl : (survW d.pe keep).length = m := by rw [survW_length]; exact HL.out.symm
      by_cases hlast : k + 1 = m ∧ 0 ≤ torn
      · obtain ⟨hk1, ht⟩ := hlast
        have hT : (tornW (survW d.pe keep) torn)[k]? = some (p, takeB s torn.toNat) := by
          rw [tornW_some HS.out, hTl, if_pos ⟨hk1, ht⟩]
        rw [← extract_takeB s torn ht] at hT
        have hfit : p + (s.extract 0 (min torn (s.size : Int)).toNat).size ≤ n := by
          have : (s.extract 0 (min torn (s.size : Int)).toNat).size ≤ s.size := by rw [ByteArray.size_extract]; omega
          omega
        have HT := Lib.hid hT
        clear hT hTl
        go_wp2_with fail
        generalize s.extract 0 (min torn (s.size : Int)).toNat = s' at *
        have b0 : (wr.alloc (.cells #[.int .i64 (p : Int), .string s'] 69)).cell? ⟨wr.heap.size, 0, none⟩ = some (.int .i64 (p : Int)) := cellOf (allocAt _ rfl) 0
        have b1 : (wr.alloc (.cells #[.int .i64 (p : Int), .string s'] 69)).cell? ⟨wr.heap.size, 1, none⟩ = some (.string s') := cellOf (allocAt _ rfl) 1
        have b3 : (wr.alloc (.cells #[.int .i64 (p : Int), .string s'] 69)).cell? ⟨w.heap.size, 0, none⟩ = some (.pointer (some ⟨bd, 0, none⟩)) := by
          rw [World.cell?_alloc_past _ _ _ (World.block_lt_of_cell? _ _ cB)]; exact cB
        have b4 : (wr.alloc (.cells #[.int .i64 (p : Int), .string s'] 69)).cell? ⟨bd, 2, none⟩ = some (.slice (some ⟨bu, 0, none⟩) n n) := by
          rw [World.cell?_alloc_past _ _ _ (World.block_lt_of_cell? _ _ c2)]; exact c2
        have hbd : bd ≠ bu := Ne.symm (ty_ne HW.out.hu HW.out.hd (by decide))
        have hwl : bu < wr.heap.size := ltOf HW.out.hu
        have hws : w.heap.size < wr.heap.size := World.block_lt_of_cell? _ _ cB
        have B0 := Lib.hid b0
        have B1 := Lib.hid b1
        have B3 := Lib.hid b3
        have B4 := Lib.hid b4
        clear b0 b1 b3 b4
        all_goals
          go_region_held3 (fun w' => w'.cell? ⟨wr.heap.size, 0, none⟩ = some (.int .i64 (p : Int)) ∧ w'.cell? ⟨wr.heap.size, 1, none⟩ = some (.string s') ∧ w'.cell? ⟨w.heap.size, 0, none⟩ = some (.pointer (some ⟨bd, 0, none⟩)) ∧ w'.cell? ⟨bd, 2, none⟩ = some (.slice (some ⟨bu, 0, none⟩) n n))
            (first | go_keep | exact ⟨k0, k1, k3, k4⟩ | exact ⟨B0.out, B1.out, B3.out, B4.out⟩)
            (first
              | (go_at_call 35
                 refine (onto_any bu p s' (applyW d.du ((tornW (survW d.pe keep) torn).take k)) _ (by rw [drewHeap, allocOld hwl]; exact HW.out.hu) n HW.out.lu hfit HW.out.hi).mono ?_
                 rintro e w2 ⟨rfl, h2, hU2⟩
                 have k0 : w2.cell? ⟨wr.heap.size, 0, none⟩ = some (.int .i64 (p : Int)) := hU2.cell (w := (wr.alloc (.cells #[.int .i64 (p : Int), .string s'] 69)).drew) B0.out (by simp; omega)
                 have k1 : w2.cell? ⟨wr.heap.size, 1, none⟩ = some (.string s') := hU2.cell (w := (wr.alloc (.cells #[.int .i64 (p : Int), .string s'] 69)).drew) B1.out (by simp; omega)
                 have k3 : w2.cell? ⟨w.heap.size, 0, none⟩ = some (.pointer (some ⟨bd, 0, none⟩)) := hU2.cell (w := (wr.alloc (.cells #[.int .i64 (p : Int), .string s'] 69)).drew) B3.out (by simp; omega)
                 have k4 : w2.cell? ⟨bd, 2, none⟩ = some (.slice (some ⟨bu, 0, none⟩) n n) := hU2.cell (w := (wr.alloc (.cells #[.int .i64 (p : Int), .string s'] 69)).drew) B4.out (by simp; omega)
                 have H2 := Lib.hid h2
                 have HU2 := Lib.hid hU2
                 clear h2 hU2))
          go_wp2_with fail
          go_roundw
          case rel =>
            have hU : Upd (· = bu) wr w2 := (((Upd.refl (· = bu) wr).alloc (.cells #[.int .i64 (p : Int), .string s'] 69)).drew).trans HU2.out (fun _ _ e => e)
            exact ⟨k + 1, by omega, by congr 1 <;> omega, crash_round HW.out HT.out H2.out hU hfit, HUW.out.trans hU (fun _ _ e => e)⟩
          case measure => simp [intOf]; omega
      · have hT : (tornW (survW d.pe keep) torn)[k]? = some (p, s) := by
          rw [tornW_some HS.out, hTl, if_neg hlast]
        have HT := Lib.hid hT
        clear hT hTl
        have b0 : (wr.alloc (.cells #[.int .i64 (p : Int), .string s] 69)).cell? ⟨wr.heap.size, 0, none⟩ = some (.int .i64 (p : Int)) := cellOf (allocAt _ rfl) 0
        have b1 : (wr.alloc (.cells #[.int .i64 (p : Int), .string s] 69)).cell? ⟨wr.heap.size, 1, none⟩ = some (.string s) := cellOf (allocAt _ rfl) 1
        have b3 : (wr.alloc (.cells #[.int .i64 (p : Int), .string s] 69)).cell? ⟨w.heap.size, 0, none⟩ = some (.pointer (some ⟨bd, 0, none⟩)) := by
          rw [World.cell?_alloc_past _ _ _ (World.block_lt_of_cell? _ _ cB)]; exact cB
        have b4 : (wr.alloc (.cells #[.int .i64 (p : Int), .string s] 69)).cell? ⟨bd, 2, none⟩ = some (.slice (some ⟨bu, 0, none⟩) n n) := by
          rw [World.cell?_alloc_past _ _ _ (World.block_lt_of_cell? _ _ c2)]; exact c2
        have hbd : bd ≠ bu := Ne.symm (ty_ne HW.out.hu HW.out.hd (by decide))
        have hwl : bu < wr.heap.size := ltOf HW.out.hu
        have hws : w.heap.size < wr.heap.size := World.block_lt_of_cell? _ _ cB
        have B0 := Lib.hid b0
        have B1 := Lib.hid b1
        have B3 := Lib.hid b3
        have B4 := Lib.hid b4
        clear b0 b1 b3 b4
        go_wp2_with fail
        all_goals
          go_region_held3 (fun w' => w'.cell? ⟨wr.heap.size, 0, none⟩ = some (.int .i64 (p : Int)) ∧ w'.cell? ⟨wr.heap.size, 1, none⟩ = some (.string s) ∧ w'.cell? ⟨w.heap.size, 0, none⟩ = some (.pointer (some ⟨bd, 0, none⟩)) ∧ w'.cell? ⟨bd, 2, none⟩ = some (.slice (some ⟨bu, 0, none⟩) n n))
            (first | go_keep | exact ⟨k0, k1, k3, k4⟩ | exact ⟨B0.out, B1.out, B3.out, B4.out⟩)
            (first
              | (go_at_call 35
                 refine (onto_any bu p s (applyW d.du ((tornW (survW d.pe keep) torn).take k)) _ (by rw [drewHeap, allocOld hwl]; exact HW.out.hu) n HW.out.lu hfit HW.out.hi).mono ?_
                 rintro e w2 ⟨rfl, h2, hU2⟩
                 have k0 : w2.cell? ⟨wr.heap.size, 0, none⟩ = some (.int .i64 (p : Int)) := hU2.cell (w := (wr.alloc (.cells #[.int .i64 (p : Int), .string s] 69)).drew) B0.out (by simp; omega)
                 have k1 : w2.cell? ⟨wr.heap.size, 1, none⟩ = some (.string s) := hU2.cell (w := (wr.alloc (.cells #[.int .i64 (p : Int), .string s] 69)).drew) B1.out (by simp; omega)
                 have k3 : w2.cell? ⟨w.heap.size, 0, none⟩ = some (.pointer (some ⟨bd, 0, none⟩)) := hU2.cell (w := (wr.alloc (.cells #[.int .i64 (p : Int), .string s] 69)).drew) B3.out (by simp; omega)
                 have k4 : w2.cell? ⟨bd, 2, none⟩ = some (.slice (some ⟨bu, 0, none⟩) n n) := hU2.cell (w := (wr.alloc (.cells #[.int .i64 (p : Int), .string s] 69)).drew) B4.out (by simp; omega)
                 have H2 := Lib.hid h2
                 have HU2 := Lib.hid hU2
                 clear h2 hU2))
          go_wp2_with fail
          go_roundw
          case rel =>
            have hU : Upd (· = bu) wr w2 := (((Upd.refl (· = bu) wr).alloc (.cells #[.int .i64 (p : Int), .string s] 69)).drew).trans HU2.out (fun _ _ e => e)
            exact ⟨k + 1, by omega, by congr 1 <;> omega, crash_round HW.out HT.out H2.out hU hfit, HUW.out.trans hU (fun _ _ e => e)⟩
          case measure => simp [intOf]; omega
    · obtain rfl : k = m := by omega
      have hTl : (tornW (survW d.pe keep) torn).length = k := by rw [tornW_length, survW_length]; exact HL.out.symm
      have hW' := HW.out
      rw [List.take_of_length_le (by omega)] at hW'
      have HV := Lib.hid hW'
      have CB := Lib.hid cB
      have hBb : w.heap.size ≠ bv := by have := ltOf H.out.hv; omega
      have hBd : w.heap.size ≠ bd := by omega
      have hBp : pv.ownBlock ≠ some w.heap.size := fun e => by have := (H.out.hp.lt _ e).2; omega
      clear hW' HW hTl
      go_wp2_with fail
      go_region_held3 (fun w' => w'.cell? ⟨w.heap.size, 0, none⟩ = some (.pointer (some ⟨bd, 0, none⟩)) ∧ w'.cell? ⟨bd, 2, none⟩ = some (.slice (some ⟨bu, 0, none⟩) n n) ∧ w'.cell? ⟨bd, 3, none⟩ = some (.slice (some ⟨bv, 0, none⟩) n n)) (first | go_keep | exact ⟨kB, k2, k3⟩ | exact ⟨CB.out, c2, c3⟩)
        (first
          | (go_at_call 37
             refine (settle_any (w := wr.drew) (bd := bd) (g := bv) (h := bu) (n := n) HV.out.hd HV.out.hv HV.out.hu HV.out.lv HV.out.lu HV.out.hp).mono ?_
             rintro e w2 ⟨rfl, pv', a1, a2, a3, a4, a5⟩
             have kB : w2.cell? ⟨w.heap.size, 0, none⟩ = some (.pointer (some ⟨bd, 0, none⟩)) := a5.cell (w := wr.drew) CB.out (fun e => by
               rcases e with e | e | e
               · exact hBd e
               · exact hBb e
               · exact hBp e)
             have k2 : w2.cell? ⟨bd, 2, none⟩ = some (.slice (some ⟨bu, 0, none⟩) n n) := cellOf a1 2
             have k3 : w2.cell? ⟨bd, 3, none⟩ = some (.slice (some ⟨bv, 0, none⟩) n n) := cellOf a1 3
             have A1 := Lib.hid a1
             have A2 := Lib.hid a2
             have A3 := Lib.hid a3
             have A4 := Lib.hid a4
             have A5 := Lib.hid a5
             clear a1 a2 a3 a4 a5))
      have kB' : w2.cell? ⟨w.heap.size, 0, none⟩ = some (.pointer (some ⟨bd, 0, none⟩)) := kB
      have e0 : w2.cell? ⟨bd, 0, none⟩ = some (.bool d.off) := cellOf A1.out 0
      have e1 : w2.cell? ⟨bd, 1, none⟩ = some (.int .i64 d.left) := cellOf A1.out 1
      have f0 : w2.frozen? ⟨bd, 0, none⟩ = false := frozenOf A1.out 0
      have f1 : w2.frozen? ⟨bd, 1, none⟩ = false := frozenOf A1.out 1
      go_wp2_with fail
      go_ret
      have hud : bu ≠ bd := ty_ne HV.out.hu HV.out.hd (by decide)
      have hvd : bv ≠ bd := ty_ne HV.out.hv HV.out.hd (by decide)
      have hpu := own_ne HV.out.hp HV.out.hu (by decide)
      have hpd : pv'.ownBlock ≠ some bd := by rw [A4.out]; exact own_ne HV.out.hp HV.out.hd (by decide)
      have U : Upd (· = bd) w2 ((w2.setCell ⟨bd, 0, none⟩ (.bool false)).setCell ⟨bd, 1, none⟩ (.int .i64 0)) := ((Upd.refl (· = bd) w2).setCell _ _ (.inl rfl)).setCell _ _ (.inl rfl)
      have hu2 : w2.heap[bu]? = some (.cells (bytesV (applyW d.du (tornW (survW d.pe keep) torn))).toArray 5 (0, 0)) := A5.out.at (w := wr.drew) HV.out.hu (fun e => by
        rcases e with e | e | e
        · exact hud e
        · exact H.out.ne e
        · exact hpu e)
      refine ⟨rfl, pv', ⟨?_, U.at hu2 hud, U.at A2.out hvd, ?_, H.out.ne, HV.out.lu, HV.out.lu, H.out.lo, H.out.hi, Int.le_refl _, (by show (0 : Int) ≤ 9223372036854775807; decide), by simp [crashed]⟩, ?_, A4.out⟩
      · rw [setOf_ (setOf_ A1.out 0 _) 1 _]; rfl
      · exact (A3.out.kept (Lib.grownBy_setCell w2 bd 0 _) (.inr hpd)).kept (Lib.grownBy_setCell _ bd 1 _) (.inr hpd)
      · refine ((HU3.out.mono (fun _ _ f => f.elim)).trans HUW.out (fun i _ e => .inr (.inl e))).trans (A5.out.of_drew.trans U (fun i _ e => .inl e)) (fun i _ e => ?_)
        rcases e with e | e | e
        · exact .inl e
        · exact .inr (.inr (.inl e))
        · exact .inr (.inr (.inr e))

set_option maxHeartbeats 400000 in
theorem Crash_nil (w : World) (kv : Value) (torn : Int) :
    Calls Try.prog 25 #[.pointer none, kv, .int .i64 torn] w fun e w' => e = .returned (.int .i64 1) ∧ Upd (fun _ => False) w w' := by
  go_enter Try.func25, Try.ntmps25
  go_wp2
  go_ret
  exact ⟨rfl, (Upd.refl _ w).alloc _⟩
end
end Go.Proofs.Ytljgphmdiflphaa
