/- The disk: Crash itself.
  The journal and its disk, plain: power failures.
  The disk with its blocks as a set: Crash.
  The journal: Open, behind a power failure.
  What a row of the digest's laws gives a walk: lists of strings, the table that is laid.
  What a row of the journal's laws gives a walk: the table, the sentinel.
  Opening an argument that is a list of lists of strings.
  Opening an argument that is a list of numbers, or of calls on a journal.
-/
import Derived.Test.YthlmgookaljgnaaGreatDoorMh
import Derived.Test.YthlmgookaljgnaaGreatDoorMg
import Derived.Test.YthlmgookaljgnaaGreatDoorMf
import Derived.Test.YthlmgookaljgnaaGreatDoorMa
import Derived.Test.YthlmgookaljgnaaGreatDoorMc
import Derived.Test.YthlmgookaljgnaaGreatDoorRows
import Derived.Test.YthlmgookaljgnaaGreatDoorMe
import Derived.SliceStrings
import Derived.LaidMore
import Derived.LaidLaws
import Derived.LaidHandle
import Derived.Lib.LaidTab
import Derived.MakeChecks
import Derived.OpenShut
import Derived.ProofKit
import Derived.Lay
import Derived.Stop.LaidErr
import Derived.Deep.Slices
import Derived.ChangeSlices
import Derived.Deep.Fields
import Derived.Deep.Grids
namespace Go.Proofs.YthlmgookaljgnaaGreatDoor
open Go.RowKit
set_option linter.unusedVariables false

/-- the numbers that Crash goes through -/
def OrdAt (w : World) (base : Nat) (v : Value) (zs : List Int) : Prop :=
  ∃ A cap, v = .slice A zs.length cap ∧ ∀ j (h : j < zs.length), ∃ g, A = some ⟨g, 0, none⟩ ∧ base ≤ g ∧ w.cell? ⟨g, j, none⟩ = some (.int .i64 zs[j])

set_option maxHeartbeats 400000 in
theorem IndexFunc_nil (w : World) (fn : Nat) (b : Addr) :
    Calls Tryz.prog 87 #[.slice none 0 0, .func (.func fn) #[] #[.pointer (some b)]] w fun e w' => e = .returned (.int .i64 (-1)) ∧ w = w' := by
  go_enter Tryz.func87, Tryz.ntmps87
  go_wp2
  go_loop [8] (fun i => i = .int .i64 0) (fun i => 0)
  case atStart => rfl
  case round =>
    obtain rfl := hrel
    go_wp2
    go_ret
    exact ⟨rfl, rfl⟩

set_option maxHeartbeats 400000 in
theorem DeleteFunc_nil (w : World) (fn : Nat) (b : Addr) :
    Calls Tryz.prog 65 #[.slice none 0 0, .func (.func fn) #[] #[.pointer (some b)]] w fun e w' => e = .returned (.slice none 0 0) ∧ w = w' := by
  go_enter Tryz.func65, Tryz.ntmps65
  go_wp2_with fail
  refine (IndexFunc_nil w fn b).mono ?_
  rintro e w' ⟨rfl, rfl⟩
  go_wp2_with fail
  go_ret
  exact ⟨rfl, rfl⟩

theorem DeleteRow_any {w : World} {base : Nat} {v : Value} {zs : List Int} (h : RowV w base v zs) (hl : zs.length ≤ 4611686018427387904) (fn : Nat) (b : Addr) (p : Int → Bool)
    (ha : ∀ W, Upd (fun k => v.ownBlock = some k) w W → Answers W fn #[.pointer (some b)] p)
    (hen : ∀ args w, (callFunc fn args).run Tryz.prog w = .ok (.enter fn args) w) :
    Calls Tryz.prog 65 #[v, .func (.func fn) #[] #[.pointer (some b)]] w fun e w' => ∃ A cap, e = .returned (.slice A (zs.filter fun x => !p x).length cap) ∧
      OrdAt w' base (.slice A (zs.filter fun x => !p x).length cap) (zs.filter fun x => !p x) ∧ Upd (fun k => v.ownBlock = some k) w w' := by
  rcases h with ⟨rfl, rfl⟩ | ⟨g, cap, tl, rfl, hb, hg, ht, hc, hc6⟩
  · refine (DeleteFunc_nil w fn b).mono ?_
    rintro e w' ⟨rfl, rfl⟩
    exact ⟨none, 0, rfl, ⟨none, 0, rfl, fun j h => by simp at h⟩, Upd.refl _ _⟩
  · have hS : ∀ k, ((Value.slice (some ⟨g, 0, none⟩) zs.length cap).ownBlock = some k) = (k = g) := fun k => by
      simp only [Value.ownBlock, Option.some.injEq]; exact propext eq_comm
    have hS' : (fun k => (Value.slice (some ⟨g, 0, none⟩) zs.length cap).ownBlock = some k) = (· = g) := funext hS
    rw [hS'] at ha ⊢
    refine (DeleteFunc_any w g cap zs tl fn b p hl hc ht hc6 hg ha hen).mono ?_
    rintro e w' ⟨rfl, h1, h2⟩
    exact ⟨_, _, rfl, ⟨_, _, rfl, fun j h => ⟨g, rfl, hb, h1 j h⟩⟩, h2⟩

theorem pendV_get {l : List (Nat × ByteArray)} {i : Nat} (h : i < l.length) : (pendV l)[i * 2]? = some (.int .i64 (l[i].1 : Int)) ∧ (pendV l)[i * 2 + 1]? = some (.string l[i].2) := by
  induction l generalizing i with
  | nil => simp at h
  | cons x l ih =>
    have e : pendV (x :: l) = .int .i64 (x.1 : Int) :: .string x.2 :: pendV l := by simp [pendV]
    rw [e]
    cases i with
    | zero => simp
    | succ i =>
      have := ih (i := i) (by simpa using h)
      rw [show (i + 1) * 2 = i * 2 + 1 + 1 by omega]
      simpa using this

theorem pend_cell {w : World} {pv : Value} {l : List (Nat × ByteArray)} (h : w.ownsRow 0 86 2 pv l.length (pendV l)) {i : Nat} (hi : i < l.length) :
    ∃ g cap, pv = .slice (some ⟨g, 0, none⟩) l.length cap ∧ g < w.heap.size ∧ w.cell? ⟨g, i * 2, none⟩ = some (.int .i64 (l[i].1 : Int)) ∧ w.cell? ⟨g, i * 2 + 1, none⟩ = some (.string l[i].2) := by
  rcases h.2 with ⟨e, e'⟩ | ⟨g, cap, cur, e, hb, hg, hn, hc, hs, htk⟩
  · omega
  · have hx := pendV_get hi
    refine ⟨g, cap, e, ltOf hg, ?_, ?_⟩
    · rw [cellOf hg, ← hx.1, ← htk, List.getElem?_take, if_pos (by omega)]; simp
    · rw [cellOf hg, ← hx.2, ← htk, List.getElem?_take, if_pos (by omega)]; simp

theorem DiskAt.foot_lt {w : World} {bd bu bv : Nat} {pv : Value} {n : Nat} {d : DV} (h : DiskAt w bd bu bv pv n d) {k : Nat} (hf : Foot bd bu bv pv k) : k < w.heap.size := by
  rcases hf with rfl | rfl | rfl | e
  · exact ltOf h.hd
  · exact ltOf h.hu
  · exact ltOf h.hv
  · exact (h.hp.lt _ e).2

theorem DiskAt.putDu {w w' : World} {bd bu bv : Nat} {pv : Value} {n : Nat} {d : DV} (h : DiskAt w bd bu bv pv n d) {l : List UInt8} (hl : l.length = n) (hw : w'.heap[bu]? = some (.cells (bytesV l).toArray 5 (0, 0)))
    (hU : Upd (· = bu) w w') : DiskAt w' bd bu bv pv n { d with du := l } := by
  have hud : bu ≠ bd := ty_ne h.hu h.hd (by decide)
  have hpu := own_neK h.hp h.hu (by decide)
  refine ⟨hU.at h.hd (Ne.symm hud), hw, hU.at h.hv (Ne.symm h.ne), ?_, h.ne, hl, h.lv, h.lo, h.hi, h.l0, h.l1, h.fit⟩
  refine ⟨h.hp.1, ?_⟩
  rcases h.hp.2 with e | ⟨g, cap, cur, e, hb, hg, r⟩
  · exact .inl e
  · refine .inr ⟨g, cap, cur, e, hb, hU.at hg ?_, r⟩
    rintro rfl
    exact hpu (by rw [e]; rfl)

/-- the k-th surviving write as it is applied -/
theorem tornW_get {ws : List (Nat × ByteArray)} {torn : Int} {k : Nat} (h : k < ws.length) : (tornW ws torn)[k]? = some (if k + 1 = ws.length ∧ 0 ≤ torn then (ws[k].1, takeB ws[k].2 torn.toNat) else ws[k]) := by
  simp [tornW, h]
theorem tornW_length (ws : List (Nat × ByteArray)) (torn : Int) : (tornW ws torn).length = ws.length := by simp [tornW]
theorem applyW_take_succ {b : List UInt8} {ws : List (Nat × ByteArray)} {k : Nat} {p : Nat × ByteArray} (h : ws[k]? = some p) : applyW b (ws.take (k + 1)) = splice (applyW b (ws.take k)) p.1 p.2.data.toList := by
  rw [List.take_add_one, h]; exact applyW_snoc _ _ _
theorem survW_get {pe : List (Nat × ByteArray)} {keep : List Int} {k : Nat} (h : k < (survN keep pe.length).length) : ∃ i, ∃ hi : i < pe.length, (survN keep pe.length)[k]? = some i ∧ (survW pe keep)[k]? = some pe[i] := by
  refine ⟨(survN keep pe.length)[k], survN_lt (List.getElem_mem h), by simp [h], ?_⟩
  have hi := survN_lt (List.getElem_mem h)
  simp [survW, h, hi]
theorem survW_length (pe : List (Nat × ByteArray)) (keep : List Int) : (survW pe keep).length = (survN keep pe.length).length := by simp [survW]
theorem IntsAt.up {n₀ n₁ : Nat} {w w' : World} {sv : Value} {zs : List Int} (h : IntsAt n₀ w sv zs) (hU : Upd (fun _ => False) w w') (hn : n₀ ≤ w.heap.size) (h1 : n₀ ≤ n₁) : IntsAt n₁ w' sv zs := by
  rcases h with e | ⟨b, off, cap, e, hb, hc⟩
  · exact .inl e
  · exact .inr ⟨b, off, cap, e, by omega, fun j hj => hU.cell (hc j hj) (fun f => f)⟩
theorem RowV.own_ge {w : World} {base : Nat} {v : Value} {zs : List Int} (h : RowV w base v zs) {k : Nat} (e : v.ownBlock = some k) : base ≤ k := by
  rcases h with ⟨rfl, _⟩ | ⟨g, cap, tl, rfl, hb, _⟩
  · cases e
  · simp only [Value.ownBlock, Option.some.injEq] at e; omega

theorem crash_row {W : World} {base len cap : Nat} {A : Option Addr} {pe : List (Nat × ByteArray)} {keep : List Int} (h : OrdAt W base (.slice A len cap) (ordOf keep pe.length)) :
    len = (survN keep pe.length).length ∧ ∀ j, j < len → ∃ g i, ∃ hi : i < pe.length, A = some ⟨g, 0, none⟩ ∧ base ≤ g ∧ W.cell? ⟨g, j, none⟩ = some (.int .i64 (i : Int)) ∧ (survW pe keep)[j]? = some pe[i] := by
  obtain ⟨A', cap', e, hc⟩ := h
  have hl : (ordOf keep pe.length).length = (survN keep pe.length).length := by rw [ordOf_eq, List.length_map]
  injection e with e1 e2 e3
  subst e1
  refine ⟨by omega, fun j hj => ?_⟩
  obtain ⟨g, hA, hb, hcell⟩ := hc j (by omega)
  obtain ⟨i, hi, h1, h2⟩ := survW_get (pe := pe) (keep := keep) (k := j) (by omega)
  refine ⟨g, i, hi, hA, hb, ?_, h2⟩
  rw [hcell]
  have : (ordOf keep pe.length)[j]? = some (i : Int) := by rw [ordOf_eq, List.getElem?_map, h1]; rfl
  rw [List.getElem?_eq_getElem (by omega)] at this
  rw [Option.some.inj this]
theorem survN_length_le (keep : List Int) (m : Nat) : (survN keep m).length ≤ m := by
  have := List.length_filter_le (fun i => decide (((i : Nat) : Int) ∈ keep)) (List.range m)
  rw [List.length_range] at this; exact this

theorem tornW_some {ws : List (Nat × ByteArray)} {torn : Int} {k : Nat} {q : Nat × ByteArray} (h : ws[k]? = some q) : (tornW ws torn)[k]? = some (if k + 1 = ws.length ∧ 0 ≤ torn then (q.1, takeB q.2 torn.toNat) else q) := by
  obtain ⟨hk, e⟩ := List.getElem?_eq_some_iff.1 h
  rw [tornW_get hk, e]
theorem crash_round {wr w2 : World} {bd bu bv : Nat} {pv : Value} {n k p : Nat} {d : DV} {T : List (Nat × ByteArray)} {s : ByteArray} (h : DiskAt wr bd bu bv pv n { d with du := applyW d.du (T.take k) }) (hT : T[k]? = some (p, s))
    (h2 : w2.heap[bu]? = some (.cells (bytesV (splice (applyW d.du (T.take k)) p s.data.toList)).toArray 5 (0, 0))) (hU : Upd (· = bu) wr w2) (hf : p + s.size ≤ n) :
    DiskAt w2 bd bu bv pv n { d with du := applyW d.du (T.take (k + 1)) } := by
  rw [applyW_take_succ hT]
  refine h.putDu (l := splice (applyW d.du (T.take k)) p s.data.toList) ?_ h2 hU
  rw [length_splice]
  · exact h.lu
  · rw [← Lib.size_eq, h.lu]; exact hf

theorem extract_takeB (s : ByteArray) (torn : Int) (h : 0 ≤ torn) : s.extract 0 (min torn (s.size : Int)).toNat = takeB s torn.toNat := by
  apply ByteArray.ext
  apply Array.ext'
  simp only [takeB, ByteArray.data_extract, Array.toList_extract, List.extract_eq_take_drop, List.drop_zero, Nat.sub_zero]
  have hs : s.size = s.data.toList.length := Lib.size_eq s
  rcases Nat.lt_or_ge torn.toNat s.size with h1 | h1
  · rw [show (min torn (s.size : Int)).toNat = torn.toNat by omega]
  · rw [List.take_of_length_le (by omega), List.take_of_length_le (by omega)]

section
variable {w : World} {bd bu bv : Nat} {pv : Value} {n : Nat} {d : DV}

/-- What Crash leaves. -/
def crashed (d : DV) (keep : List Int) (torn : Int) : DV := ⟨false, 0, applyW d.du (tornW (survW d.pe keep) torn), applyW d.du (tornW (survW d.pe keep) torn), []⟩

/-- Behind the choice of the survivors. -/
def CrashMid (w : World) (bd : Nat) (m : Nat) (zs : List Int) (v : Value) (wx : World) : Prop :=
  ∃ A cap, v = .slice A m cap ∧ (∀ j (h : j < zs.length), ∃ g, A = some ⟨g, 0, none⟩ ∧ w.heap.size ≤ g ∧ wx.cell? ⟨g, j, none⟩ = some (.int .i64 zs[j])) ∧
    Upd (fun _ => False) w wx ∧ wx.cell? ⟨w.heap.size, 0, none⟩ = some (.pointer (some ⟨bd, 0, none⟩)) ∧ w.heap.size < wx.heap.size

set_option maxRecDepth 100000 in
set_option maxHeartbeats 1600000 in
theorem Crash_ok (h : DiskAt w bd bu bv pv n d) (keep : List Int) (ka : Option Addr) (kl kc : Nat) (hI : IntsAt w.heap.size w (.slice ka kl kc) keep) (hk : keep.length ≤ 100000000) (hm : d.pe.length ≤ 2000000) (torn : Int)
    (ht0 : -9223372036854775808 ≤ torn) (ht1 : torn ≤ 9223372036854775807) :
    Calls Tryz.prog 48 #[.pointer (some ⟨bd, 0, none⟩), .slice ka kl kc, .int .i64 torn] w fun e w' => e = .returned (.int .i64 0) ∧
      ∃ pv', DiskAt w' bd bu bv pv' n (crashed d keep torn) ∧ Upd (Foot bd bu bv pv) w w' ∧ pv'.ownBlock = pv.ownBlock := by
  have hlt := ltOf h.hd
  have H := Lib.hid h
  have HI := Lib.hid hI
  clear h hI
  go_enter Tryz.func48, Tryz.ntmps48
  go_wp2_with fail
  refine (Values_any ka kl kc _).mono ?_
  rintro e w' ⟨rfl, rfl⟩
  go_wp2_with fail
  have U1 : Upd (fun _ => False) w ((w.alloc (.cells #[.pointer (some ⟨bd, 0, none⟩)] 27)).alloc (.cells #[.slice ka kl kc] 50)) := ((Upd.refl _ w).alloc _).alloc _
  have hsz : w.heap.size + 2 = ((w.alloc (.cells #[.pointer (some ⟨bd, 0, none⟩)] 27)).alloc (.cells #[.slice ka kl kc] 50)).heap.size := by simp
  have hB1 : ((w.alloc (.cells #[.pointer (some ⟨bd, 0, none⟩)] 27)).alloc (.cells #[.slice ka kl kc] 50)).cell? ⟨w.heap.size, 0, none⟩ = some (.pointer (some ⟨bd, 0, none⟩)) := by
    rw [cellOf (cs := #[.pointer (some ⟨bd, 0, none⟩)]) (t := 27) (fr := (0, 0)) (by rw [allocOld (by simp), allocAt _ rfl])]; rfl
  have hS := Sorted_any (w.heap.size + 1) (.slice ka kl kc) keep hk ((w.alloc (.cells #[.pointer (some ⟨bd, 0, none⟩)] 27)).alloc (.cells #[.slice ka kl kc] 50)) (by simp) (by rw [cellOf (cs := #[.slice ka kl kc]) (t := 50) (fr := (0, 0)) (by rw [allocAt _ (by simp)])]; rfl) (HI.out.up U1 (Nat.le_refl _) (by simp; omega))
  rw [← hsz] at hS
  have HS := Lib.hid hS
  generalize ((w.alloc (.cells #[.pointer (some ⟨bd, 0, none⟩)] 27)).alloc (.cells #[.slice ka kl kc] 50)) = W0 at *
  have HB1 := Lib.hid hB1
  have HZ := Lib.hid hsz
  clear hS hB1 hsz
  go_wp2_with fail
  refine HS.out.mono ?_
  rintro e W1 ⟨v1, rfl, r1, b1⟩
  have R1 := Lib.hid r1
  have B1 := Lib.hid b1
  clear r1 b1
  go_wp2_with fail
  refine (Compact_any R1.out).mono ?_
  rintro e W2 ⟨v2, rfl, r2, u2⟩
  have hU2 : Upd (fun _ => False) w W2 := (U1.trans (T := fun _ => False) (Upd.of_below (by rw [← HZ.out]; exact B1.out)) (fun _ _ e => e)).trans u2 (fun i hi e => by have := R1.out.own_ge e; omega)
  have hB2 : W2.cell? ⟨w.heap.size, 0, none⟩ = some (.pointer (some ⟨bd, 0, none⟩)) :=
    u2.cell ((B1.out.cell (by show w.heap.size < _; omega)).trans HB1.out) (fun e => by have := R1.out.own_ge e; simp at this; omega)
  have R2 := Lib.hid r2
  have HB2 := Lib.hid hB2
  have HU2 := Lib.hid hU2
  clear r2 hB2 hU2 u2
  have hlen2 : (Lib.compact (keep.mergeSort fun x y => decide (x ≤ y))).length ≤ 4611686018427387904 := by
    have := Lib.compact_length_le (keep.mergeSort fun x y => decide (x ≤ y)); rw [List.length_mergeSort] at this; omega
  have hD := DeleteRow_any R2.out hlen2 66 ⟨w.heap.size, 0, none⟩ (outB d.pe.length) (fun W hW i => crash1_any (H.out.upd (HU2.out.trans hW (fun i hi e => by have := R2.out.own_ge e; omega)) (fun _ _ f => f)) w.heap.size (hW.cell HB2.out (fun e => by have := R2.out.own_ge e; simp at this; omega)) i)
    (enters_of Tryz.func66 (by kernel_rfl) rfl)
  have HD := Lib.hid hD
  clear hD
  go_wp2_with fail
  refine HD.out.mono ?_
  rintro e W3 ⟨A, cap, rfl, h3, u3⟩
  generalize hmm : (List.filter (fun x => !outB d.pe.length x) (Lib.compact (keep.mergeSort fun x y => decide (x ≤ y)))).length = m at h3 ⊢
  obtain ⟨hlm, hrow⟩ := crash_row (pe := d.pe) (keep := keep) h3
  have hU3 : Upd (fun _ => False) w W3 := HU2.out.trans u3 (fun i hi e => by have := R2.out.own_ge e; omega)
  have hB3 : W3.cell? ⟨w.heap.size, 0, none⟩ = some (.pointer (some ⟨bd, 0, none⟩)) := u3.cell HB2.out (fun e => by have := R2.out.own_ge e; simp at this; omega)
  have hlt3 : w.heap.size < W3.heap.size := World.block_lt_of_cell? W3 _ hB3
  have HB3 := Lib.hid hB3
  have HU3 := Lib.hid hU3
  have HR := Lib.hid hrow
  have hmle : m ≤ 2000000 := by rw [hlm]; exact Nat.le_trans (survN_length_le _ _) hm
  have HL := Lib.hid hlm
  clear hrow hB3 hU3 u3 h3 hmm hlm HD HS HZ U1 R1 B1 HB1 HB2 HU2 R2
  go_wp2_with fail
  go_loopw [22] (fun vi wr => ∃ k : Nat, k ≤ m ∧ vi = .int .i64 k ∧ Hid (DiskAt wr bd bu bv pv n { d with du := applyW d.du ((tornW (survW d.pe keep) torn).take k) }) ∧ Hid (Upd (· = bu) W3 wr)) (fun vi _ => m - (intOf vi).toNat)
  case atStart => exact ⟨0, Nat.zero_le _, rfl, H.out.upd HU3.out (fun _ _ f => f), Upd.refl _ _⟩
  case round =>
    obtain ⟨k, hkm, rfl, HW, HUW⟩ := hrel
    have hbu : bu < w.heap.size := ltOf H.out.hu
    have cB : wr.cell? ⟨w.heap.size, 0, none⟩ = some (.pointer (some ⟨bd, 0, none⟩)) := HUW.out.cell HB3.out (fun e => by simp at e; omega)
    have c2 : wr.cell? ⟨bd, 2, none⟩ = some (.slice (some ⟨bu, 0, none⟩) n n) := cellOf HW.out.hd 2
    have c3 : wr.cell? ⟨bd, 3, none⟩ = some (.slice (some ⟨bv, 0, none⟩) n n) := cellOf HW.out.hd 3
    by_cases hlt : k < m
    · obtain ⟨g, i, hi, hA, hb, hcell, hsv⟩ := HR.out k hlt
      have c1 : wr.cell? ⟨g, k, none⟩ = some (.int .i64 (i : Int)) := HUW.out.cell hcell (fun e => by simp at e; omega)
      obtain ⟨gp, capp, hpv, hgp, p0, p1⟩ := pend_cell HW.out.hp hi
      have c4 : wr.cell? ⟨bd, 4, none⟩ = some (.slice (some ⟨gp, 0, none⟩) d.pe.length capp) := by rw [← hpv]; exact cellOf HW.out.hd 4
      subst hA
      have hfit := HW.out.fit _ (List.getElem_mem hi)
      generalize hps : d.pe[i] = ps at *
      obtain ⟨p, s⟩ := ps
      simp only at p0 p1 hfit
      have HS := Lib.hid hsv
      clear hcell hps hsv hpv
      have hTl : (survW d.pe keep).length = m := by rw [survW_length]; exact HL.out.symm
      by_cases hlast : k + 1 = m ∧ 0 ≤ torn
      · obtain ⟨hk1, ht⟩ := hlast
        have hT : (tornW (survW d.pe keep) torn)[k]? = some (p, takeB s torn.toNat) := by
          rw [tornW_some HS.out, hTl, if_pos ⟨hk1, ht⟩]
        rw [← extract_takeB s torn ht] at hT
        have hfit : p + (s.extract 0 (min torn (s.size : Int)).toNat).size ≤ n := by
          have : (s.extract 0 (min torn (s.size : Int)).toNat).size ≤ s.size := by rw [ByteArray.size_extract]; omega
          omega
        have HT := Lib.hid hT
        clear hT hTl
        go_wp2_with fail
        generalize s.extract 0 (min torn (s.size : Int)).toNat = s' at *
        have b0 : (wr.alloc (.cells #[.int .i64 (p : Int), .string s'] 86)).cell? ⟨wr.heap.size, 0, none⟩ = some (.int .i64 (p : Int)) := cellOf (allocAt _ rfl) 0
        have b1 : (wr.alloc (.cells #[.int .i64 (p : Int), .string s'] 86)).cell? ⟨wr.heap.size, 1, none⟩ = some (.string s') := cellOf (allocAt _ rfl) 1
        have b3 : (wr.alloc (.cells #[.int .i64 (p : Int), .string s'] 86)).cell? ⟨w.heap.size, 0, none⟩ = some (.pointer (some ⟨bd, 0, none⟩)) := by
          rw [World.cell?_alloc_past _ _ _ (World.block_lt_of_cell? _ _ cB)]; exact cB
        have b4 : (wr.alloc (.cells #[.int .i64 (p : Int), .string s'] 86)).cell? ⟨bd, 2, none⟩ = some (.slice (some ⟨bu, 0, none⟩) n n) := by
          rw [World.cell?_alloc_past _ _ _ (World.block_lt_of_cell? _ _ c2)]; exact c2
        have hbd : bd ≠ bu := Ne.symm (ty_ne HW.out.hu HW.out.hd (by decide))
        have hwl : bu < wr.heap.size := ltOf HW.out.hu
        have hws : w.heap.size < wr.heap.size := World.block_lt_of_cell? _ _ cB
        have B0 := Lib.hid b0
        have B1 := Lib.hid b1
        have B3 := Lib.hid b3
        have B4 := Lib.hid b4
        clear b0 b1 b3 b4
        all_goals
          go_region_held3 (fun w' => w'.cell? ⟨wr.heap.size, 0, none⟩ = some (.int .i64 (p : Int)) ∧ w'.cell? ⟨wr.heap.size, 1, none⟩ = some (.string s') ∧ w'.cell? ⟨w.heap.size, 0, none⟩ = some (.pointer (some ⟨bd, 0, none⟩)) ∧ w'.cell? ⟨bd, 2, none⟩ = some (.slice (some ⟨bu, 0, none⟩) n n))
            (first | go_keep | exact ⟨k0, k1, k3, k4⟩ | exact ⟨B0.out, B1.out, B3.out, B4.out⟩)
            (first
              | (go_at_call 40
                 refine (onto_any bu p s' (applyW d.du ((tornW (survW d.pe keep) torn).take k)) _ (by rw [drewHeap, allocOld hwl]; exact HW.out.hu) n HW.out.lu hfit HW.out.hi).mono ?_
                 rintro e w2 ⟨rfl, h2, hU2⟩
                 have k0 : w2.cell? ⟨wr.heap.size, 0, none⟩ = some (.int .i64 (p : Int)) := hU2.cell (w := (wr.alloc (.cells #[.int .i64 (p : Int), .string s'] 86)).drew) B0.out (by simp; omega)
                 have k1 : w2.cell? ⟨wr.heap.size, 1, none⟩ = some (.string s') := hU2.cell (w := (wr.alloc (.cells #[.int .i64 (p : Int), .string s'] 86)).drew) B1.out (by simp; omega)
                 have k3 : w2.cell? ⟨w.heap.size, 0, none⟩ = some (.pointer (some ⟨bd, 0, none⟩)) := hU2.cell (w := (wr.alloc (.cells #[.int .i64 (p : Int), .string s'] 86)).drew) B3.out (by simp; omega)
                 have k4 : w2.cell? ⟨bd, 2, none⟩ = some (.slice (some ⟨bu, 0, none⟩) n n) := hU2.cell (w := (wr.alloc (.cells #[.int .i64 (p : Int), .string s'] 86)).drew) B4.out (by simp; omega)
                 have H2 := Lib.hid h2
                 have HU2 := Lib.hid hU2
                 clear h2 hU2))
          go_wp2_with fail
          go_roundw
          case rel =>
            have hU : Upd (· = bu) wr w2 := (((Upd.refl (· = bu) wr).alloc (.cells #[.int .i64 (p : Int), .string s'] 86)).drew).trans HU2.out (fun _ _ e => e)
            exact ⟨k + 1, by omega, by congr 1 <;> omega, crash_round HW.out HT.out H2.out hU hfit, HUW.out.trans hU (fun _ _ e => e)⟩
          case measure => simp [intOf]; omega
      · have hT : (tornW (survW d.pe keep) torn)[k]? = some (p, s) := by
          rw [tornW_some HS.out, hTl, if_neg hlast]
        have HT := Lib.hid hT
        clear hT hTl
        have b0 : (wr.alloc (.cells #[.int .i64 (p : Int), .string s] 86)).cell? ⟨wr.heap.size, 0, none⟩ = some (.int .i64 (p : Int)) := cellOf (allocAt _ rfl) 0
        have b1 : (wr.alloc (.cells #[.int .i64 (p : Int), .string s] 86)).cell? ⟨wr.heap.size, 1, none⟩ = some (.string s) := cellOf (allocAt _ rfl) 1
        have b3 : (wr.alloc (.cells #[.int .i64 (p : Int), .string s] 86)).cell? ⟨w.heap.size, 0, none⟩ = some (.pointer (some ⟨bd, 0, none⟩)) := by
          rw [World.cell?_alloc_past _ _ _ (World.block_lt_of_cell? _ _ cB)]; exact cB
        have b4 : (wr.alloc (.cells #[.int .i64 (p : Int), .string s] 86)).cell? ⟨bd, 2, none⟩ = some (.slice (some ⟨bu, 0, none⟩) n n) := by
          rw [World.cell?_alloc_past _ _ _ (World.block_lt_of_cell? _ _ c2)]; exact c2
        have hbd : bd ≠ bu := Ne.symm (ty_ne HW.out.hu HW.out.hd (by decide))
        have hwl : bu < wr.heap.size := ltOf HW.out.hu
        have hws : w.heap.size < wr.heap.size := World.block_lt_of_cell? _ _ cB
        have B0 := Lib.hid b0
        have B1 := Lib.hid b1
        have B3 := Lib.hid b3
        have B4 := Lib.hid b4
        clear b0 b1 b3 b4
        go_wp2_with fail
        all_goals
          go_region_held3 (fun w' => w'.cell? ⟨wr.heap.size, 0, none⟩ = some (.int .i64 (p : Int)) ∧ w'.cell? ⟨wr.heap.size, 1, none⟩ = some (.string s) ∧ w'.cell? ⟨w.heap.size, 0, none⟩ = some (.pointer (some ⟨bd, 0, none⟩)) ∧ w'.cell? ⟨bd, 2, none⟩ = some (.slice (some ⟨bu, 0, none⟩) n n))
            (first | go_keep | exact ⟨k0, k1, k3, k4⟩ | exact ⟨B0.out, B1.out, B3.out, B4.out⟩)
            (first
              | (go_at_call 40
                 refine (onto_any bu p s (applyW d.du ((tornW (survW d.pe keep) torn).take k)) _ (by rw [drewHeap, allocOld hwl]; exact HW.out.hu) n HW.out.lu hfit HW.out.hi).mono ?_
                 rintro e w2 ⟨rfl, h2, hU2⟩
                 have k0 : w2.cell? ⟨wr.heap.size, 0, none⟩ = some (.int .i64 (p : Int)) := hU2.cell (w := (wr.alloc (.cells #[.int .i64 (p : Int), .string s] 86)).drew) B0.out (by simp; omega)
                 have k1 : w2.cell? ⟨wr.heap.size, 1, none⟩ = some (.string s) := hU2.cell (w := (wr.alloc (.cells #[.int .i64 (p : Int), .string s] 86)).drew) B1.out (by simp; omega)
                 have k3 : w2.cell? ⟨w.heap.size, 0, none⟩ = some (.pointer (some ⟨bd, 0, none⟩)) := hU2.cell (w := (wr.alloc (.cells #[.int .i64 (p : Int), .string s] 86)).drew) B3.out (by simp; omega)
                 have k4 : w2.cell? ⟨bd, 2, none⟩ = some (.slice (some ⟨bu, 0, none⟩) n n) := hU2.cell (w := (wr.alloc (.cells #[.int .i64 (p : Int), .string s] 86)).drew) B4.out (by simp; omega)
                 have H2 := Lib.hid h2
                 have HU2 := Lib.hid hU2
                 clear h2 hU2))
          go_wp2_with fail
          go_roundw
          case rel =>
            have hU : Upd (· = bu) wr w2 := (((Upd.refl (· = bu) wr).alloc (.cells #[.int .i64 (p : Int), .string s] 86)).drew).trans HU2.out (fun _ _ e => e)
            exact ⟨k + 1, by omega, by congr 1 <;> omega, crash_round HW.out HT.out H2.out hU hfit, HUW.out.trans hU (fun _ _ e => e)⟩
          case measure => simp [intOf]; omega
    · obtain rfl : k = m := by omega
      have hTl : (tornW (survW d.pe keep) torn).length = k := by rw [tornW_length, survW_length]; exact HL.out.symm
      have hW' := HW.out
      rw [List.take_of_length_le (by omega)] at hW'
      have HV := Lib.hid hW'
      have CB := Lib.hid cB
      have hBb : w.heap.size ≠ bv := by have := ltOf H.out.hv; omega
      have hBd : w.heap.size ≠ bd := by omega
      have hBp : pv.ownBlock ≠ some w.heap.size := fun e => by have := (H.out.hp.lt _ e).2; omega
      clear hW' HW hTl
      go_wp2_with fail
      go_region_held3 (fun w' => w'.cell? ⟨w.heap.size, 0, none⟩ = some (.pointer (some ⟨bd, 0, none⟩)) ∧ w'.cell? ⟨bd, 2, none⟩ = some (.slice (some ⟨bu, 0, none⟩) n n) ∧ w'.cell? ⟨bd, 3, none⟩ = some (.slice (some ⟨bv, 0, none⟩) n n)) (first | go_keep | exact ⟨kB, k2, k3⟩ | exact ⟨CB.out, c2, c3⟩)
        (first
          | (go_at_call 57
             refine (settle_any (w := wr.drew) (bd := bd) (g := bv) (h := bu) (n := n) HV.out.hd HV.out.hv HV.out.hu HV.out.lv HV.out.lu HV.out.hp).mono ?_
             rintro e w2 ⟨rfl, pv', a1, a2, a3, a4, a5⟩
             have kB : w2.cell? ⟨w.heap.size, 0, none⟩ = some (.pointer (some ⟨bd, 0, none⟩)) := a5.cell (w := wr.drew) CB.out (fun e => by
               rcases e with e | e | e
               · exact hBd e
               · exact hBb e
               · exact hBp e)
             have k2 : w2.cell? ⟨bd, 2, none⟩ = some (.slice (some ⟨bu, 0, none⟩) n n) := cellOf a1 2
             have k3 : w2.cell? ⟨bd, 3, none⟩ = some (.slice (some ⟨bv, 0, none⟩) n n) := cellOf a1 3
             have A1 := Lib.hid a1
             have A2 := Lib.hid a2
             have A3 := Lib.hid a3
             have A4 := Lib.hid a4
             have A5 := Lib.hid a5
             clear a1 a2 a3 a4 a5))
      have kB' : w2.cell? ⟨w.heap.size, 0, none⟩ = some (.pointer (some ⟨bd, 0, none⟩)) := kB
      have e0 : w2.cell? ⟨bd, 0, none⟩ = some (.bool d.off) := cellOf A1.out 0
      have e1 : w2.cell? ⟨bd, 1, none⟩ = some (.int .i64 d.left) := cellOf A1.out 1
      have f0 : w2.frozen? ⟨bd, 0, none⟩ = false := frozenOf A1.out 0
      have f1 : w2.frozen? ⟨bd, 1, none⟩ = false := frozenOf A1.out 1
      go_wp2_with fail
      go_ret
      have hud : bu ≠ bd := ty_ne HV.out.hu HV.out.hd (by decide)
      have hvd : bv ≠ bd := ty_ne HV.out.hv HV.out.hd (by decide)
      have hpu := own_neK HV.out.hp HV.out.hu (by decide)
      have hpd : pv'.ownBlock ≠ some bd := by rw [A4.out]; exact own_neK HV.out.hp HV.out.hd (by decide)
      have U : Upd (· = bd) w2 ((w2.setCell ⟨bd, 0, none⟩ (.bool false)).setCell ⟨bd, 1, none⟩ (.int .i64 0)) := ((Upd.refl (· = bd) w2).setCell _ _ (.inl rfl)).setCell _ _ (.inl rfl)
      have hu2 : w2.heap[bu]? = some (.cells (bytesV (applyW d.du (tornW (survW d.pe keep) torn))).toArray 5 (0, 0)) := A5.out.at (w := wr.drew) HV.out.hu (fun e => by
        rcases e with e | e | e
        · exact hud e
        · exact H.out.ne e
        · exact hpu e)
      refine ⟨rfl, pv', ⟨?_, U.at hu2 hud, U.at A2.out hvd, ?_, H.out.ne, HV.out.lu, HV.out.lu, H.out.lo, H.out.hi, Int.le_refl _, (by show (0 : Int) ≤ 9223372036854775807; decide), by simp [crashed]⟩, ?_, A4.out⟩
      · rw [setOf_ (setOf_ A1.out 0 _) 1 _]; rfl
      · exact (A3.out.kept (Lib.grownBy_setCell w2 bd 0 _) (.inr hpd)).kept (Lib.grownBy_setCell _ bd 1 _) (.inr hpd)
      · refine ((HU3.out.mono (fun _ _ f => f.elim)).trans HUW.out (fun i _ e => .inr (.inl e))).trans (A5.out.of_drew.trans U (fun i _ e => .inl e)) (fun i _ e => ?_)
        rcases e with e | e | e
        · exact .inl e
        · exact .inr (.inr (.inl e))
        · exact .inr (.inr (.inr e))

set_option maxHeartbeats 400000 in
theorem Crash_nil (w : World) (kv : Value) (torn : Int) :
    Calls Tryz.prog 48 #[.pointer none, kv, .int .i64 torn] w fun e w' => e = .returned (.int .i64 1) ∧ Upd (fun _ => False) w w' := by
  go_enter Tryz.func48, Tryz.ntmps48
  go_wp2
  go_ret
  exact ⟨rfl, (Upd.refl _ w).alloc _⟩
end
end Go.Proofs.YthlmgookaljgnaaGreatDoor
namespace Go.Proofs.YthlmgookaljgnaaGreatDoor
open Go.RowKit
set_option linter.unusedVariables false

/-- a content that begins with a list of records, and whose next byte is 0 -/
structure JTail (n : Nat) (v : List UInt8) (l : List ByteArray) : Prop where
  vi : ∃ z, v = (outE tv0 l).data.toList ++ z ∧ z.length = n - needOf l ∧ (z = [] ∨ z.head? = some 0)
  fit : needOf l ≤ n
  small : ∀ r ∈ l, r.size ≤ 65536

theorem JInv.tail {n : Nat} {d : DV} {l : List ByteArray} (h : JInv n d l) : JTail n d.vi l := by
  refine ⟨⟨_, h.vi, by simp, ?_⟩, h.fit, h.small⟩
  by_cases h0 : n - needOf l = 0
  · rw [h0]; exact .inl rfl
  · obtain ⟨m, hm⟩ : ∃ m, n - needOf l = m + 1 := ⟨n - needOf l - 1, by omega⟩
    rw [hm]; exact .inr rfl
theorem JTail.load {n : Nat} {d : DV} {l : List ByteArray} (h : JTail n d.vi l) : loadP (diskB d) (n + 1) tv0 = some (growAll tv0 l) := by
  obtain ⟨z, hv, hz, h0⟩ := h.vi
  have := needOf_length l
  have := h.fit
  refine loadP_app (diskB d) l tv0 (n + 1) z h.small (by omega) ?_ h0
  show d.vi.drop 0 = _
  rw [List.drop_zero]; exact hv
theorem JTail.len {n : Nat} {v : List UInt8} {l : List ByteArray} (h : JTail n v l) : v.length = n := by
  obtain ⟨z, hv, hz, h0⟩ := h.vi
  have := h.fit
  rw [hv, List.length_append, ba_len, outE_len, hz]; omega

/-- what is on a disk that is in order -/
structure Good (n : Nat) (d : DV) (l : List ByteArray) : Prop where
  inv : JInv n d l
  du : d.du = d.vi
  pe : d.pe = []
/-- a disk without power: whatever survives, the records are there, or the group in addition -/
def Rec (n : Nat) (d : DV) (l g : List ByteArray) : Prop := d.off = true ∧ d.pe.length ≤ 1 ∧ ∀ keep torn, JTail n (crashed d keep torn).vi l ∨ JInv n (crashed d keep torn) (l ++ g)

theorem crashed_none {d : DV} (h : d.pe = []) (keep : List Int) (torn : Int) : crashed d keep torn = ⟨false, 0, d.du, d.du, []⟩ := by
  have e : survW d.pe keep = [] := by rw [h]; rfl
  rw [crashed, e]; rfl
theorem Good.crash {n : Nat} {d : DV} {l : List ByteArray} (h : Good n d l) (keep : List Int) (torn : Int) : Good n (crashed d keep torn) l ∧ (crashed d keep torn).off = false ∧ (crashed d keep torn).left = 0 := by
  rw [crashed_none h.pe]
  exact ⟨⟨⟨by show d.du = _; rw [h.du]; exact h.inv.vi, h.inv.fit, h.inv.small⟩, rfl, rfl⟩, rfl, rfl⟩
/-- one pending write -/
theorem crashed_one {d : DV} {p : Nat} {s : ByteArray} (h : d.pe = [(p, s)]) (keep : List Int) (torn : Int) :
    (crashed d keep torn).vi = d.du ∨ ∃ m, (crashed d keep torn).vi = splice d.du p (s.data.toList.take m) ∧ (m ≤ s.size) := by
  have e : survW d.pe keep = if (0 : Int) ∈ keep then [(p, s)] else [] := by
    rw [h, survW, survN]
    by_cases hk : (0 : Int) ∈ keep
    · rw [if_pos hk]; simp [List.range_succ, hk]
    · rw [if_neg hk]; simp [List.range_succ, hk]
  by_cases hk : (0 : Int) ∈ keep
  · rw [if_pos hk] at e
    right
    by_cases ht : 0 ≤ torn
    · refine ⟨min torn.toNat s.size, ?_, Nat.min_le_right _ _⟩
      have e2 : (crashed d keep torn).vi = splice d.du p (s.data.toList.take torn.toNat) := by
        show applyW d.du (tornW (survW d.pe keep) torn) = _
        rw [e]; simp [tornW, applyW, ht, takeB]
      rw [e2]
      congr 1
      rw [← ba_len s, ← List.take_take, List.take_of_length_le (l := s.data.toList) (Nat.le_refl _)]
    · refine ⟨s.size, ?_, Nat.le_refl _⟩
      show applyW d.du (tornW (survW d.pe keep) torn) = _
      rw [e, ← ba_len s, List.take_of_length_le (Nat.le_refl _)]
      simp [tornW, applyW, ht]
  · rw [if_neg hk] at e
    left
    show applyW d.du (tornW (survW d.pe keep) torn) = _
    rw [e]; rfl

theorem splice_behind (P z s : List UInt8) (x : UInt8) (hs : s.length ≤ z.length) : splice (P ++ x :: z) (P.length + 1) s = P ++ x :: (s ++ z.drop s.length) := by
  unfold splice
  rw [List.take_append, List.take_of_length_le (by omega), show P.length + 1 - P.length = 1 by omega, List.drop_append, List.drop_of_length_le (by omega), show P.length + 1 + s.length - P.length = s.length + 1 by omega]
  simp
theorem splice_none (L : List UInt8) (p : Nat) (h : p ≤ L.length) : splice L p [] = L := by unfold splice; simp

/-- a call of Append on a journal in order, whatever the disk's power -/
theorem appJ_power {n : Nat} {d : DV} {l g : List ByteArray} (h : Good n d l) (ho : d.off = false) (hl : 0 ≤ d.left) (hs : ∀ r ∈ g, r.size ≤ 65536) :
    (¬ needOf l + needOf g ≤ n ∧ appJ n false (growAll tv0 l) d g = (261, false, growAll tv0 l, d)) ∨
    (needOf l + needOf g ≤ n ∧ ∃ d', appJ n false (growAll tv0 l) d g = (0, false, growAll tv0 (l ++ g), d') ∧ Good n d' (l ++ g) ∧ d'.off = false ∧ 0 ≤ d'.left) ∨
    (needOf l + needOf g ≤ n ∧ ∃ d', appJ n false (growAll tv0 l) d g = (251, true, growAll tv0 l, d') ∧ Rec n d' l g) := by
  by_cases hf : needOf l + needOf g ≤ n
  rotate_left
  · exact .inl ⟨hf, appJ_full hs hf⟩
  right
  have hany : ¬ (false = true ∨ g.any (fun r => decide (65536 < r.size)) = true) := by
    rintro (h | h)
    · cases h
    · obtain ⟨r, hr, hx⟩ := List.any_eq_true.1 h
      have := hs r hr
      simp only [decide_eq_true_eq] at hx
      omega
  have hroom : ¬ ((n : Int) - ((growAll tv0 l).size : Int) < ((outE (growAll tv0 l) g).size : Int)) := by rw [growAll_len, outE_len]; omega
  by_cases hg : g = []
  · subst hg
    exact .inl ⟨hf, d, by rw [appJ, if_neg hany, if_neg hroom, if_pos rfl, List.append_nil], by rw [List.append_nil]; exact h, ho, hl⟩
  obtain ⟨o, hou⟩ := outE_head (growAll tv0 l) g hg
  have hol : (1 :: o).length = needOf g := by rw [← hou, ba_len, outE_len]
  have hPl : (outE tv0 l).data.toList.length = needOf l := by rw [ba_len, outE_len]
  simp only [List.length_cons] at hol
  have hvi : d.vi = (outE tv0 l).data.toList ++ 0 :: List.replicate (n - needOf l - 1) 0 := by
    rw [h.inv.vi, show n - needOf l = (n - needOf l - 1) + 1 by omega, List.replicate_succ]; simp
  have hdu : d.du = (outE tv0 l).data.toList ++ 0 :: List.replicate (n - needOf l - 1) 0 := by rw [h.du, hvi]
  have ht1 : ((outE (growAll tv0 l) g).extract 1 (outE (growAll tv0 l) g).size).data.toList = o := by rw [extract_tail, hou]; rfl
  have ht0 : ((outE (growAll tv0 l) g).extract 0 1).data.toList = [1] := extract_head1 _ _ _ hou
  have hs1 : ((outE (growAll tv0 l) g).extract 1 (outE (growAll tv0 l) g).size).size = o.length := by rw [← ba_len, ht1]
  have hs0 : ((outE (growAll tv0 l) g).extract 0 1).size = 1 := by rw [← ba_len, ht0]; rfl
  have hap := h.inv.append hg hs hf
  have e0 : appJ n false (growAll tv0 l) d g = if (writeD d ((growAll tv0 l).size + 1) ((outE (growAll tv0 l) g).extract 1 (outE (growAll tv0 l) g).size)).off = true then (251, true, growAll tv0 l, writeD d ((growAll tv0 l).size + 1) ((outE (growAll tv0 l) g).extract 1 (outE (growAll tv0 l) g).size))
      else if (writeD (syncD (writeD d ((growAll tv0 l).size + 1) ((outE (growAll tv0 l) g).extract 1 (outE (growAll tv0 l) g).size))) (growAll tv0 l).size ((outE (growAll tv0 l) g).extract 0 1)).off = true then
        (251, true, growAll tv0 l, writeD (syncD (writeD d ((growAll tv0 l).size + 1) ((outE (growAll tv0 l) g).extract 1 (outE (growAll tv0 l) g).size))) (growAll tv0 l).size ((outE (growAll tv0 l) g).extract 0 1))
      else (0, false, growAll (growAll tv0 l) g, syncD (writeD (syncD (writeD d ((growAll tv0 l).size + 1) ((outE (growAll tv0 l) g).extract 1 (outE (growAll tv0 l) g).size))) (growAll tv0 l).size ((outE (growAll tv0 l) g).extract 0 1))) := by
    rw [appJ, if_neg hany, if_neg hroom, if_neg hg, if_neg (by rw [ho]; simp)]
  generalize hS1 : (outE (growAll tv0 l) g).extract 1 (outE (growAll tv0 l) g).size = S1 at *
  generalize hS0 : (outE (growAll tv0 l) g).extract 0 1 = S0 at *
  have hp : (growAll tv0 l).size = needOf l := growAll_len l
  rw [hp] at e0 hap
  have hbeh : ∀ m, splice d.du (needOf l + 1) (o.take m) = (outE tv0 l).data.toList ++ 0 :: (o.take m ++ (List.replicate (n - needOf l - 1) 0).drop (o.take m).length) := fun m => by
    rw [hdu, ← hPl]
    exact splice_behind _ _ _ _ (by rw [List.length_take, List.length_replicate]; omega)
  by_cases c1 : (writeD d (needOf l + 1) S1).off = true
  · right
    rw [if_pos c1] at e0
    refine ⟨hf, _, e0, c1, ?_, fun keep torn => .inl ?_⟩
    · show (d.pe ++ [_]).length ≤ 1; rw [h.pe]; simp
    · have hpe : (writeD d (needOf l + 1) S1).pe = [(needOf l + 1, S1)] := by show d.pe ++ _ = _; rw [h.pe]; rfl
      rcases crashed_one hpe keep torn with e | ⟨m, e, hm⟩
      · rw [e]
        exact ⟨⟨_, hdu, by simp; omega, .inr rfl⟩, h.inv.fit, h.inv.small⟩
      · rw [e, show (writeD d (needOf l + 1) S1).du = d.du from rfl, ht1, hbeh]
        exact ⟨⟨_, rfl, by simp; omega, .inr rfl⟩, h.inv.fit, h.inv.small⟩
  rw [if_neg c1] at e0
  have c1' : (writeD d (needOf l + 1) S1).off = false := by simpa using c1
  have l1 : 0 ≤ (writeD d (needOf l + 1) S1).left := by show 0 ≤ usedLeft d.left; unfold usedLeft; split <;> omega
  generalize hd1 : writeD d (needOf l + 1) S1 = d1 at *
  have hv1 : d1.vi = (outE tv0 l).data.toList ++ 0 :: (o ++ (List.replicate (n - needOf l - 1) 0).drop o.length) := by
    have := hbeh o.length
    rw [List.take_length] at this
    rw [← hd1, ← this]; show splice d.vi _ _ = _; rw [ht1, h.du]
  by_cases c3 : (writeD (syncD d1) (needOf l) S0).off = true
  · right
    rw [if_pos c3] at e0
    refine ⟨hf, _, e0, c3, by show ([] ++ [_]).length ≤ 1; simp, fun keep torn => ?_⟩
    have hpe : (writeD (syncD d1) (needOf l) S0).pe = [(needOf l, S0)] := rfl
    have hold : JTail n d1.vi l := ⟨⟨_, hv1, by simp; omega, .inr rfl⟩, h.inv.fit, h.inv.small⟩
    rcases crashed_one hpe keep torn with e | ⟨m, e, hm⟩
    · rw [e]; exact .inl hold
    · rw [show (writeD (syncD d1) (needOf l) S0).du = d1.vi from rfl] at e
      by_cases hm0 : m = 0
      · subst hm0
        rw [List.take_zero, splice_none _ _ (by rw [hold.len]; omega)] at e
        rw [e]; exact .inl hold
      · right
        have hm1 : m = 1 := by omega
        refine ⟨?_, hap.fit, hap.small⟩
        rw [e, hm1, ht0, ← hap.vi]
        show _ = splice d1.vi (needOf l) S0.data.toList
        rw [ht0]; rfl
  · left
    rw [if_neg c3, ← growAll_append] at e0
    refine ⟨hf, _, e0, ⟨hap, rfl, rfl⟩, (show (writeD (syncD d1) (needOf l) S0).off = false by simpa using c3), ?_⟩
    show 0 ≤ usedLeft d1.left; unfold usedLeft; split <;> omega

/-- what Open does on a disk -/
def openJ (n : Nat) (d : DV) : Int × Option TV × DV :=
  if d.off = true then (251, none, d)
  else match loadP (diskB d) (n + 1) tv0 with
    | none => (262, none, d)
    | some t => if d.vi.drop t.size = List.replicate (n - t.size) 0 then (0, some t, d)
      else if (writeD d t.size ⟨(List.replicate (n - t.size) (0 : UInt8)).toArray⟩).off = true then (251, none, writeD d t.size ⟨(List.replicate (n - t.size) (0 : UInt8)).toArray⟩)
      else (0, some t, syncD (writeD d t.size ⟨(List.replicate (n - t.size) (0 : UInt8)).toArray⟩))

theorem splice_last (P z s : List UInt8) (h : s.length = z.length) : splice (P ++ z) P.length s = P ++ s := by
  unfold splice
  rw [List.take_append, List.take_of_length_le (Nat.le_refl _), Nat.sub_self, List.take_zero, List.append_nil, List.drop_append, List.drop_of_length_le (by omega), show P.length + s.length - P.length = s.length by omega, List.drop_of_length_le (by omega)]
  simp
/-- opening behind a power failure -/
theorem openJ_tail {n : Nat} {d : DV} {l : List ByteArray} (h : JTail n d.vi l) (ho : d.off = false) (hl : d.left = 0) (hd : d.du = d.vi) (hp : d.pe = []) :
    ∃ d', openJ n d = (0, some (growAll tv0 l), d') ∧ Good n d' l ∧ d'.off = false ∧ d'.left = 0 := by
  obtain ⟨z, hv, hz, h0⟩ := h.vi
  have hPl : (outE tv0 l).data.toList.length = needOf l := by rw [ba_len, outE_len]
  have hdr : d.vi.drop (needOf l) = z := by rw [hv, ← hPl, List.drop_left]
  rw [openJ, if_neg (by rw [ho]; simp), h.load]
  simp only [growAll_len, hdr]
  by_cases hzz : z = List.replicate (n - needOf l) 0
  · rw [if_pos hzz]
    exact ⟨d, rfl, ⟨⟨by rw [hv, hzz], h.fit, h.small⟩, hd, hp⟩, ho, hl⟩
  · rw [if_neg hzz, if_neg (by show ¬ usedOff false d.left = true; rw [hl]; decide)]
    refine ⟨_, rfl, ⟨⟨?_, h.fit, h.small⟩, rfl, rfl⟩, by show usedOff false d.left = false; rw [hl]; rfl, by show usedLeft d.left = 0; rw [hl]; rfl⟩
    show splice d.vi (needOf l) (List.replicate (n - needOf l) 0) = _
    rw [hv, ← hPl]
    exact splice_last _ _ _ (by rw [hz, hPl]; simp)
theorem Good.open {n : Nat} {d : DV} {l : List ByteArray} (h : Good n d l) (ho : d.off = false) : openJ n d = (0, some (growAll tv0 l), d) := by
  have hPl : (outE tv0 l).data.toList.length = needOf l := by rw [ba_len, outE_len]
  rw [openJ, if_neg (by rw [ho]; simp), h.inv.load]
  simp only [growAll_len]
  rw [if_pos]
  rw [h.inv.vi, ← hPl, List.drop_left]
/-- a power failure and opening again -/
theorem Rec.crash {n : Nat} {d : DV} {l g : List ByteArray} (h : Rec n d l g) (keep : List Int) (torn : Int) :
    ∃ d' l', openJ n (crashed d keep torn) = (0, some (growAll tv0 l'), d') ∧ (l' = l ∨ l' = l ++ g) ∧ Good n d' l' ∧ d'.off = false ∧ d'.left = 0 := by
  rcases h.2.2 keep torn with h1 | h1
  · obtain ⟨d', e, a, b, c⟩ := openJ_tail h1 rfl rfl rfl rfl
    exact ⟨d', l, e, .inl rfl, a, b, c⟩
  · obtain ⟨d', e, a, b, c⟩ := openJ_tail h1.tail rfl rfl rfl rfl
    exact ⟨d', l ++ g, e, .inr rfl, a, b, c⟩
end Go.Proofs.YthlmgookaljgnaaGreatDoor
namespace Go.Proofs.YthlmgookaljgnaaGreatDoor
open Go.RowKit
set_option linter.unusedVariables false

section
variable {w : World} {bd n : Nat} {d : DV} {F : Nat → Prop}
theorem crashF (h : DiskF w bd n d F) (keep : List Int) (ka : Option Addr) (kl kc : Nat) (hI : IntsAt w.heap.size w (.slice ka kl kc) keep) (hk : keep.length ≤ 100000000) (hm : d.pe.length ≤ 2000000) (torn : Int)
    (ht0 : -9223372036854775808 ≤ torn) (ht1 : torn ≤ 9223372036854775807) :
    Calls Tryz.prog 48 #[.pointer (some ⟨bd, 0, none⟩), .slice ka kl kc, .int .i64 torn] w fun e w' => e = .returned (.int .i64 0) ∧ ∃ F', DiskF w' bd n (crashed d keep torn) F' ∧ Moves F F' w w' := by
  obtain ⟨bu, bv, pv, h1, h2⟩ := h
  refine (Crash_ok h1 keep ka kl kc hI hk hm torn ht0 ht1).mono ?_
  rintro e w' ⟨rfl, pv', a, b, c⟩
  exact ⟨rfl, _, ⟨bu, bv, pv', a, fun _ => Iff.rfl⟩, moves_same h2 b c⟩

end

section
variable {N : Nat} {w : World} {bd n : Nat} {d : DV}
theorem crashB (h : DiskB N w bd n d) (keep : List Int) (ka : Option Addr) (kl kc : Nat) (hI : IntsAt w.heap.size w (.slice ka kl kc) keep) (hk : keep.length ≤ 100000000) (hm : d.pe.length ≤ 2000000) (torn : Int)
    (ht0 : -9223372036854775808 ≤ torn) (ht1 : torn ≤ 9223372036854775807) :
    Calls Tryz.prog 48 #[.pointer (some ⟨bd, 0, none⟩), .slice ka kl kc, .int .i64 torn] w fun e w' => e = .returned (.int .i64 0) ∧ DiskB N w' bd n (crashed d keep torn) ∧ Below N w w' := by
  obtain ⟨F, a, b, c⟩ := h
  exact (crashF a keep ka kl kc hI hk hm torn ht0 ht1).mono fun e w' ⟨h1, h2⟩ => ⟨h1, DiskB.of b c h2⟩
end
end Go.Proofs.YthlmgookaljgnaaGreatDoor
namespace Go.Proofs.YthlmgookaljgnaaGreatDoor
open Go.RowKit Go.Shelf
set_option linter.unusedVariables false

theorem ne_zero_of {l : List UInt8} {m : Nat} (hl : l.length = m) (h : ¬ l = List.replicate m 0) : ∃ x ∈ l, x ≠ 0 := by
  apply Classical.byContradiction
  intro hn
  apply h
  rw [List.eq_replicate_iff]
  exact ⟨hl, fun x hx => Classical.byContradiction fun h0 => hn ⟨x, hx, h0⟩⟩

/-- Open, where it comes to a journal -/
theorem OpenJ_ok {w : World} {bd n : Nat} {d d' : DV} {F : Nat → Prop} {t : TV} (h : DiskF w bd n d F) (hn : n ≤ 900000) (hR : RoundLaid w) (a : Addr) (hD : DamLaid a w) (hpe : d.pe.length ≤ 100000) (hJ : openJ n d = (0, some t, d')) :
    Calls Tryz.prog 24 #[.pointer (some ⟨bd, 0, none⟩)] w fun e w' => ∃ jb G', e = .returned (.tuple #[.pointer (some ⟨jb, 0, none⟩), .int .i64 0]) ∧ JG w' jb bd n false t d' G' ∧ Moves F G' w w' := by
  unfold openJ at hJ
  by_cases ho : d.off = true
  · rw [if_pos ho] at hJ; simp at hJ
  rw [if_neg ho] at hJ
  have ho' : d.off = false := by simpa using ho
  rcases hL : loadP (diskB d) (n + 1) tv0 with _ | t1
  · rw [hL] at hJ; simp at hJ
  rw [hL] at hJ
  simp only at hJ
  by_cases hz : d.vi.drop t1.size = List.replicate (n - t1.size) 0
  · rw [if_pos hz] at hJ
    simp only [Prod.mk.injEq, Option.some.injEq, true_and] at hJ
    obtain ⟨rfl, rfl⟩ := hJ
    refine (OpenG h ho' hn hR a hD _ hL (fun x hx => by rw [hz] at hx; exact (List.mem_replicate.1 hx).2)).mono ?_
    rintro e w' ⟨jb, G', rfl, h1, h2, h3, h4⟩
    exact ⟨jb, G', rfl, h1, Upd.of_below h4, h3⟩
  · rw [if_neg hz] at hJ
    have hne := ne_zero_of (by rw [List.length_drop, h.size_pos.2.2.1]) hz
    by_cases ho1 : (writeD d t1.size ⟨(List.replicate (n - t1.size) (0 : UInt8)).toArray⟩).off = true
    · rw [if_pos ho1] at hJ; simp at hJ
    · rw [if_neg ho1] at hJ
      simp only [Prod.mk.injEq, Option.some.injEq, true_and] at hJ
      obtain ⟨rfl, rfl⟩ := hJ
      refine (Open_write h ho' hn hR a hD _ hL hne hpe).mono ?_
      rintro e w' ⟨F', d', h1, h2, ⟨h3, _⟩ | ⟨h3, rfl, jb, G', rfl, h4, h5⟩⟩
      · exact absurd h3 ho1
      · refine ⟨jb, G', rfl, h4, ?_, h5⟩
        exact h2.1
/-- .. for a law -/
theorem OpenSJ {w W : World} {bd n : Nat} {d d' : DV} {F : Nat → Prop} {t : TV} (h : DiskF W bd n d F) (hF : ∀ k, F k → w.heap.size ≤ k) (hB : Below w.heap.size w W) (hn : n ≤ 900000) (hR : RoundLaid w) (a : Addr) (hD : DamLaid a w) (hpe : d.pe.length ≤ 100000) (hJ : openJ n d = (0, some t, d')) :
    Calls Tryz.prog 24 #[.pointer (some ⟨bd, 0, none⟩)] W fun e w' => ∃ jb G', e = .returned (.tuple #[.pointer (some ⟨jb, 0, none⟩), .int .i64 0]) ∧ SG w w' jb bd n false t d' G' ∧ Moves F G' W w' := by
  refine (OpenJ_ok h hn (hR.below hB) a (hD.upd (Upd.of_below (S := fun _ => False) hB) (fun h => h)) hpe hJ).mono ?_
  rintro e w' ⟨jb, G', rfl, h1, h2⟩
  obtain ⟨h3, h4⟩ := h2.base hF hB.size
  exact ⟨jb, G', rfl, ⟨h1, h3, hB.trans h4⟩, h2⟩
end Go.Proofs.YthlmgookaljgnaaGreatDoor
namespace Go.Proofs.YthlmgookaljgnaaGreatDoor
open Go.ChangeShapes Go.WideShapes Go.ChangeAt Go.RowKit
set_option linter.unusedVariables false

theorem cell_spot {w : World} {x : Addr} {v : Value} (h : w.cell? x = some v) : x.spot = none := by
  unfold World.cell? at h
  split at h
  · split at h
    · cases h
    · first | assumption | (rename_i e; simpa using e) | simp_all
  · cases h
theorem open_strs {H : Type} {enc : TypeId × Value → H} {w : World} {held : Bool} {a : Option Addr} {len cap : Nat} {d : DataW H} {ps : List MemPlace}
    (h : DataW.Trod enc Tryz.prog w 0 (fun _ => true) held 22 (.slice a len cap) d ps) :
    len ≤ cap ∧ cap ≤ 9223372036854775807 ∧ ∃ zs : List ByteArray, zs.length = len ∧ SL w (.slice a len cap) zs ∧ ∀ s ∈ zs, s.size ≤ 9223372036854775807 := by
  obtain ⟨fuel, hf⟩ := h
  rcases open_strings Tryz.underlying22 Tryz.underlying9 (by kernel_rfl) hf with ⟨hcs, _⟩ | ⟨x, l, c, ss, hcs, _, hl, hm, hlen, _, hcell, hsz⟩
  · simp [Value.cells] at hcs
    obtain ⟨rfl, rfl, rfl⟩ := hcs
    exact ⟨Nat.le_refl _, by omega, [], rfl, SL.nil _, fun s h => by cases h⟩
  · simp [Value.cells] at hcs
    obtain ⟨rfl, rfl, rfl⟩ := hcs
    rw [if_pos rfl] at hlen
    have hlt : (ss.take len).length = len := by rw [List.length_take]; omega
    refine ⟨hl, hm, ss.take len, hlt, ⟨_, cap, by rw [hlt], by omega, fun h0 => ?_⟩, fun s hs => hsz s (List.mem_of_mem_take hs)⟩
    have c00 := hcell 0 (by omega)
    have hs : x.spot = none := by
      have := cell_spot c00
      simpa [Addr.add] using this
    have hb : x.block < w.heap.size := by
      have := World.block_lt_of_cell? _ _ c00
      simpa [Addr.add] using this
    obtain ⟨b, o, sp⟩ := x
    simp only at hs hb
    subst hs
    refine ⟨b, o, rfl, hb, fun j y hj => ?_⟩
    have hjl : j < len := by have := (List.getElem?_eq_some_iff.1 hj).1; omega
    have cj := hcell j (by omega)
    have hadd : (⟨b, o, none⟩ : Addr).add j = ⟨b, o + j, none⟩ := by
      unfold Addr.add
      by_cases h : j = 0
      · subst h; simp
      · simp [h]
    rw [hadd] at cj
    rw [cj]
    rw [List.getElem?_take, if_pos hjl] at hj
    rw [List.getD_eq_getElem?_getD, hj]; rfl

def roundList : List (String × DataW Unit) := [("workpiece/digest.round", Rows.laid_workpiece_digest_round)]
theorem gRound : Tryz.prog.globalNamed "workpiece/digest.round" = some 3 := by kernel_rfl
theorem door_met (os : Os) (args : Array Value) : laidMetH Tryz.prog roundList ((World.doorLaid Tryz.prog 43 os).forCall (fun _ _ => 0) ⟨#[], args, []⟩).memory :=
  laidMetH_of_parts3 (fuel := 8) (laidMet_of_run' 8 (by kernel_rfl) (by kernel_rfl)) (by kernel_rfl) (by kernel_rfl)
theorem round_of_laid {W : World} (h : laidMetH Tryz.prog roundList W) : RoundLaid W := by
  rw [MakeChecks.laidMetH_plain _ _ _ (by kernel_rfl)] at h
  have h1 : laidMet Tryz.prog (("workpiece/digest.round", Lib.tabData .u32 (Sha.K.map Int.ofNat)) :: []) W := h
  have h2 := Lib.tabIs_of_head (g := 3) (t := 204) (e := 156) (n := 64) gRound (by kernel_rfl) Tryz.underlying204 Tryz.underlying156 (by kernel_rfl) (by kernel_rfl) h1
  unfold Lib.TabIs World.var? at h2
  rw [gRound] at h2
  simp only [Option.bind_some] at h2
  split at h2
  · rename_i cs t fr e
    have h3 := Option.some.inj h2
    subst h3
    exact ⟨(t, fr), e⟩
  · cases h2
end Go.Proofs.YthlmgookaljgnaaGreatDoor
namespace Go.Proofs.YthlmgookaljgnaaGreatDoor
open Go.ChangeShapes Go.WideShapes Go.ChangeAt Go.RowKit
set_option linter.unusedVariables false

theorem star_es : "*" ++ "errors.errorString" = "*errors.errorString" := by decide
theorem rowES (u : TypeId) (h : Tryz.prog.typeName? 3 u = some "*errors.errorString") : u = 218 :=
  typeName_ptr_named (nm := "errors.errorString") (by rw [star_es]; kernel_rfl) (by kernel_rfl) (by decide) u (by rw [star_es]; exact h)
theorem gDam : Tryz.prog.globalNamed "workpiece/journal.errDamaged" = some 0 := by kernel_rfl
theorem dam_of_list {W : World} {rest : List (String × DataW Unit)} (h : laidMet Tryz.prog (("workpiece/journal.errDamaged", Rows.laid_workpiece_journal_errDamaged) :: rest) W) : ∃ a, DamLaid a W := by
  obtain ⟨a0, s0, hv0, hc0, hs0, hz0⟩ := laid_sentinel h gDam (by kernel_rfl) Tryz.underlying73 rowES Tryz.underlying218 Tryz.underlying240 rfl rfl Tryz.underlying9 (by kernel_rfl) (by kernel_rfl)
  refine ⟨a0, ?_⟩
  unfold World.var? at hv0
  rw [gDam] at hv0
  simp only [Option.bind_some] at hv0
  split at hv0
  · rename_i cs t fr e
    have h3 := Option.some.inj hv0
    subst h3
    have hb : 0 < W.heap.size := ltOf e
    exact ⟨by unfold World.cell?; simp [e, damE], hb⟩
  · cases hv0
theorem round_of_list {W : World} {rest : List (String × DataW Unit)} (h : laidMet Tryz.prog (("workpiece/digest.round", Rows.laid_workpiece_digest_round) :: rest) W) : RoundLaid W := by
  have h1 : laidMet Tryz.prog (("workpiece/digest.round", Lib.tabData .u32 (Sha.K.map Int.ofNat)) :: rest) W := h
  have h2 := Lib.tabIs_of_head (g := 3) (t := 204) (e := 156) (n := 64) gRound (by kernel_rfl) Tryz.underlying204 Tryz.underlying156 (by kernel_rfl) (by kernel_rfl) h1
  unfold Lib.TabIs World.var? at h2
  rw [gRound] at h2
  simp only [Option.bind_some] at h2
  split at h2
  · rename_i cs t fr e
    have h3 := Option.some.inj h2
    subst h3
    exact ⟨(t, fr), e⟩
  · cases h2
def jList : List (String × DataW Unit) := [("unicode/utf8.acceptRanges", Rows.laid_unicode_utf8_acceptRanges), ("workpiece/digest.round", Rows.laid_workpiece_digest_round), ("workpiece/journal.errDamaged", Rows.laid_workpiece_journal_errDamaged), ("unicode/utf8.first", Rows.laid_unicode_utf8_first)]
theorem jList_met {W : World} (h : laidMetH Tryz.prog jList W) : RoundLaid W ∧ ∃ a, DamLaid a W := by
  rw [MakeChecks.laidMetH_plain _ _ _ (by kernel_rfl)] at h
  have h0 : laidMet Tryz.prog (("unicode/utf8.acceptRanges", Rows.laid_unicode_utf8_acceptRanges) :: ("workpiece/digest.round", Rows.laid_workpiece_digest_round) :: ("workpiece/journal.errDamaged", Rows.laid_workpiece_journal_errDamaged) :: ("unicode/utf8.first", Rows.laid_unicode_utf8_first) :: []) W := h
  exact ⟨round_of_list h0.tail, dam_of_list h0.tail.tail⟩
theorem jWitness_met (os : Os) (args : Array Value) : laidMetH Tryz.prog jList ((World.laidAll Tryz.prog os jList).forCall (fun _ _ => 0) ⟨#[], args, []⟩).memory := by
  rw [MakeChecks.laidMetH_plain _ _ _ (by kernel_rfl)]
  exact laidMet_laidAll _ (by kernel_rfl) (by kernel_rfl)
end Go.Proofs.YthlmgookaljgnaaGreatDoor
namespace Go.Proofs.YthlmgookaljgnaaGreatDoor
open Go.ChangeShapes Go.WideShapes Go.ChangeAt Go.RowKit Go.Deep
set_option linter.unusedVariables false

/-- a slice that reads as a list of lists of strings -/
def LL (w : World) (sv : Value) (gs : List (List ByteArray)) : Prop :=
  ∃ a cap, sv = .slice a gs.length cap ∧ gs.length ≤ cap ∧ (0 < gs.length → ∃ b off, a = some ⟨b, off, none⟩ ∧ b < w.heap.size ∧ ∀ j g, gs[j]? = some g → ∃ v, w.cell? ⟨b, off + j, none⟩ = some v ∧ SL w v g)

theorem choose_list2 {α : Type} [Inhabited α] {n : Nat} {p : Nat → α → Prop} (h : ∀ i, i < n → ∃ x, p i x) : ∃ l : List α, l.length = n ∧ ∀ i (hi : i < l.length), p i l[i] := by
  obtain ⟨f, hf⟩ := choose_lt h
  exact ⟨(List.range n).map f, by simp, fun i hi => by simpa using hf i (by simpa using hi)⟩

end Go.Proofs.YthlmgookaljgnaaGreatDoor
namespace Go.Proofs.YthlmgookaljgnaaGreatDoor
open Go.ChangeShapes Go.WideShapes Go.ChangeAt Go.RowKit Go.Deep
set_option linter.unusedVariables false

/-- each beginning of a slice of numbers -/
def KRow (w : World) (a : Option Addr) (len cap : Nat) (zs : List Int) : Prop := (a = none → len = 0 ∧ cap = 0) ∧ ∀ m, m ≤ len → IntsAt w.heap.size w (.slice a m cap) (zs.take m)

theorem add_plain2 (b o n : Nat) : (⟨b, o, none⟩ : Addr).add n = ⟨b, o + n, none⟩ := by
  unfold Addr.add
  by_cases h : n = 0
  · subst h; simp
  · simp [h]

theorem open_ks {H : Type} {enc : TypeId × Value → H} {w : World} {held : Bool} {a : Option Addr} {len cap : Nat} {d : DataW H} {ps : List MemPlace}
    (h : DataW.Trod enc Tryz.prog w 0 (fun _ => true) held 50 (.slice a len cap) d ps) :
    len ≤ cap ∧ cap ≤ 9223372036854775807 ∧ ∃ zs : List Int, zs.length = len ∧ KRow w a len cap zs := by
  obtain ⟨fuel, hf⟩ := h
  rcases open_ints Tryz.underlying50 Tryz.underlying3 (by kernel_rfl) hf with ⟨hcs, _⟩ | ⟨x, l, c, zs, hcs, _, hl, hm, hz, _, hcell, hwz⟩
  · simp [Value.cells] at hcs
    obtain ⟨rfl, rfl, rfl⟩ := hcs
    exact ⟨Nat.le_refl _, by omega, [], rfl, ⟨fun _ => ⟨rfl, rfl⟩, fun m hm => by
      obtain rfl : m = 0 := by omega
      exact .inl ⟨rfl, rfl⟩⟩⟩
  · simp [Value.cells] at hcs
    obtain ⟨rfl, rfl, rfl⟩ := hcs
    have hz' : zs.length = cap := by simpa using hz
    refine ⟨hl, hm, zs.take len, by rw [List.length_take]; omega, ⟨fun e => (by cases e), fun m hml => ?_⟩⟩
    rw [List.take_take, Nat.min_eq_left hml]
    by_cases h0 : m = 0
    · subst h0
      exact .inl ⟨by simp [nilish], rfl⟩
    have c00 := hcell 0 (by omega)
    have hs : x.spot = none := by
      have := cell_spot c00
      simpa [Addr.add] using this
    have hb : x.block < w.heap.size := by
      have := World.block_lt_of_cell? _ _ c00
      simpa [Addr.add] using this
    obtain ⟨b, o, sp⟩ := x
    simp only at hs hb
    subst hs
    have hlm : (zs.take m).length = m := by rw [List.length_take]; omega
    refine .inr ⟨b, o, cap, by rw [hlm], hb, fun j hj => ?_⟩
    have c0 := hcell j (by omega)
    rw [add_plain2] at c0
    rw [c0, List.getElem?_take, if_pos (by omega)]
    simp [List.getD]
end Go.Proofs.YthlmgookaljgnaaGreatDoor
