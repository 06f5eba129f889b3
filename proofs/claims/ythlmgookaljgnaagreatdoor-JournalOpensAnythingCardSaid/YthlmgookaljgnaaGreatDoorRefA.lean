/- The reference disk: what a world holds of one; apply, has, Visible. -/
import Derived.Test.YthlmgookaljgnaaGreatDoorDiskY
import Derived.Laws.AppendOwnNone
import Derived.Deep.CutBlock
namespace Go.Proofs.YthlmgookaljgnaaGreatDoor
open Go.RowKit
set_option linter.unusedVariables false

/-- A buffer of bytes with room behind. -/
structure BufAt (w : World) (g n cap : Nat) (l : List UInt8) : Prop where
  ex : ∃ tl : List Value, w.heap[g]? = some (.cells (bytesV l ++ tl).toArray 5 (0, 0)) ∧ tl.length = cap - n
  len : l.length = n
  room : n ≤ cap
  c63 : cap ≤ 9223372036854775807

theorem bytesT_set (l : List UInt8) (tl : List Value) (i : Nat) (x : UInt8) (h : i < l.length) : (bytesV l ++ tl).toArray.setIfInBounds i (.int .u8 (x.toNat : Int)) = (bytesV (l.set i x) ++ tl).toArray := by
  simp [bytesV, List.map_set, h]

theorem bytesT_get (l : List UInt8) (tl : List Value) (i : Nat) (h : i < l.length) : (bytesV l ++ tl).toArray[i]? = some (.int .u8 (l[i].toNat : Int)) := by
  rw [List.getElem?_toArray, List.getElem?_append_left (by rw [bytesV_length]; exact h)]
  exact bytesV_get h
theorem BufAt.lt {w : World} {g n cap : Nat} {l : List UInt8} (h : BufAt w g n cap l) : g < w.heap.size := by
  obtain ⟨tl, h1, _⟩ := h.ex
  exact ltOf h1
theorem BufAt.upd {S : Nat → Prop} {w w' : World} {g n cap : Nat} {l : List UInt8} (h : BufAt w g n cap l) (hU : Upd S w w') (hS : ¬ S g) : BufAt w' g n cap l := by
  obtain ⟨tl, h1, h2⟩ := h.ex
  exact ⟨⟨tl, hU.at h1 hS, h2⟩, h.len, h.room, h.c63⟩
theorem BufAt.of_own {w : World} {base n : Nat} {v : Value} {l : List UInt8} (h : w.ownsRow base 5 1 v n (bytesV l)) (hn : 1 ≤ n) : ∃ g cap, v = .slice (some ⟨g, 0, none⟩) n cap ∧ base ≤ g ∧ BufAt w g n cap l := by
  have hl : l.length = n := by have := h.1; rw [bytesV_length] at this; omega
  rcases h.2 with ⟨_, e⟩ | ⟨g, cap, cur, e, hb, hg, hnc, hc, hs, htk⟩
  · omega
  · refine ⟨g, cap, e, hb, ⟨cur.toList.drop n, ?_, ?_⟩, hl, hnc, hc⟩
    · rw [hg, ← htk, Nat.mul_one, List.take_append_drop]
    · rw [List.length_drop, Array.length_toList, hs, Nat.mul_one]
theorem BufAt.own {w : World} {g n cap base : Nat} {l : List UInt8} (h : BufAt w g n cap l) (hb : base ≤ g) : w.ownsRow base 5 1 (.slice (some ⟨g, 0, none⟩) n cap) n (bytesV l) := by
  obtain ⟨tl, h1, h2⟩ := h.ex
  have hl := h.len
  have hc := h.room
  refine ⟨by rw [bytesV_length]; omega, .inr ⟨g, cap, _, rfl, hb, h1, hc, h.c63, ?_, ?_⟩⟩
  · rw [List.size_toArray, List.length_append, bytesV_length]; omega
  · simp only [Nat.mul_one]
    rw [List.take_append_of_le_length (by rw [bytesV_length]; omega), List.take_of_length_le (by rw [bytesV_length]; omega)]
theorem BufAt.cell {w : World} {g n cap : Nat} {l : List UInt8} (h : BufAt w g n cap l) {i : Nat} (hi : i < n) : w.cell? ⟨g, i, none⟩ = some (.int .u8 ((l[i]'(by rw [h.len]; exact hi)).toNat : Int)) := by
  obtain ⟨tl, h1, h2⟩ := h.ex
  have hl : i < l.length := by rw [h.len]; exact hi
  rw [cellOf h1]
  exact bytesT_get l tl i hl
theorem BufAt.conv {w : World} {g n cap c : Nat} {l : List UInt8} (h : BufAt w g n cap l) (p m : Nat) (hp : p + m ≤ n) : (convert 39 9 (.slice (some ⟨g, p, none⟩) m c)).run Tryz.prog w = .ok (.string ⟨((l.drop p).take m).toArray⟩) w := by
  have hl := h.len
  have hr := run_convert_bytes_arg (P := Tryz.prog) w 39 5 Tryz.underlying39 Tryz.underlying5 g p m c (((l.drop p).take m).map fun x => (x.toNat : Int)) (by simp; omega) (fun i hi => by
    rw [h.cell (by omega)]
    have h1 : p + i < l.length := by omega
    simp [h1, hi, List.getElem?_drop]) 9 Tryz.underlying9
  rw [hr]
  simp [strOfNums, Function.comp_def]

set_option maxHeartbeats 800000 in
theorem apply_any (g p n cap : Nat) (s : ByteArray) (l : List UInt8) (w : World) (hr : BufAt w g n cap l) (hs : p + s.size ≤ n) (hl : n ≤ 10000000) :
    Calls Tryz.prog 45 #[.slice (some ⟨g, 0, none⟩) n cap, .int .i64 (p : Int), .string s] w fun e w' =>
      e = .returned (.tuple #[]) ∧ BufAt w' g n cap (splice l p s.data.toList) ∧ Upd (· = g) w w' := by
  have HN := Lib.hid hr.len
  have HC := hr.room
  have H63 := hr.c63
  obtain ⟨tl, h1, h2⟩ := hr.ex
  have HR := Lib.hid h1
  have HT := Lib.hid h2
  clear hr h1 h2
  go_enter Tryz.func45, Tryz.ntmps45
  go_wp2
  go_loopw [6] (fun i wr => ∃ k : Nat, k ≤ s.size ∧ i = .int .i64 k ∧ Hid (wr.heap[g]? = some (.cells (bytesV (splice l p (s.data.toList.take k)) ++ tl).toArray 5 (0, 0))) ∧ Hid (Upd (· = g) w wr)) (fun i _ => s.size - (intOf i).toNat)
  case atStart => exact ⟨0, Nat.zero_le _, rfl, by have h := HR.out; simpa [Hid, splice] using h, Upd.refl _ _⟩
  case round =>
    obtain ⟨k, hk, rfl, hb, hU⟩ := hrel
    by_cases hlt : k < s.size
    · have hsl : s.size = s.data.toList.length := Lib.size_eq s
      have hlen : (splice l p (s.data.toList.take k)).length = n := by rw [length_splice]; exact HN.out; rw [HN.out, List.length_take]; omega
      obtain ⟨x0, c⟩ : ∃ x0 : Int, wr.cell? ⟨g, p + k, none⟩ = some (.int .u8 x0) :=
        ⟨((splice l p (s.data.toList.take k))[p + k]'(by omega)).toNat, by rw [cellOf hb.out]; exact bytesT_get _ _ _ (by omega)⟩
      have f : wr.frozen? ⟨g, p + k, none⟩ = false := frozenOf hb.out _
      have HL := Lib.hid hlen
      clear hlen
      have HS := Lib.hid hsl
      clear hsl
      go_wp2
      go_roundw
      case rel =>
        refine ⟨k + 1, by omega, by simp, ?_, ?_⟩
        · show _ = _
          rw [setOf_ hb.out]
          rw [bytesT_set _ _ _ _ (by rw [HL.out]; omega), show s[k] = s.data.toList[k]'(by rw [← HS.out]; exact hlt) from rfl, splice_take_succ l p k s.data.toList (by rw [← HS.out]; exact hlt) (by rw [← HS.out, HN.out]; exact hs)]
        · exact hU.out.setCell _ _ (.inl rfl)
      case measure => simp [intOf]; omega
    · obtain rfl : k = s.size := by omega
      go_wp2
      go_end0
      refine ⟨rfl, ⟨⟨tl, ?_, HT.out⟩, ?_, HC, H63⟩, hU.out⟩
      · have h := hb.out
        rwa [List.take_of_length_le (by rw [← Lib.size_eq]; exact Nat.le_refl _)] at h
      · rw [length_splice]
        · exact HN.out
        · rw [← Lib.size_eq, HN.out]; exact hs

/-- The reference disk: what is durable, the pending writes, the power, the cut. -/
structure RefAt (w : World) (bx gs cs : Nat) (lv : Value) (n : Nat) (d : DV) : Prop where
  hd : w.heap[bx]? = some (.cells #[.slice (some ⟨gs, 0, none⟩) n cs, lv, .bool d.off, .int .i64 d.left] 55 (0, 0))
  hs : BufAt w gs n cs d.du
  hl : w.ownsRow 0 94 2 lv d.pe.length (pendV d.pe)
  lo : 1 ≤ n
  hi : n ≤ 4194304
  l0 : 0 ≤ d.left
  l1 : d.left ≤ 9223372036854775807
  fit : ∀ p ∈ d.pe, p.1 + p.2.size ≤ n
  vis : d.vi = applyW d.du d.pe

def FootR (bx gs : Nat) (lv : Value) (k : Nat) : Prop := k = bx ∨ k = gs ∨ lv.ownBlock = some k

theorem own_upd' {S : Nat → Prop} {w w' : World} {base size n : Nat} {t : TypeId} {v : Value} {xs : List Value} (h : w.ownsRow base t size v n xs) (hU : Upd S w w') (hn : ∀ q, v.ownBlock = some q → ¬ S q) : w'.ownsRow base t size v n xs := by
  refine ⟨h.1, ?_⟩
  rcases h.2 with e | ⟨g, cap, cur, e, hb, hg, r⟩
  · exact .inl e
  · exact .inr ⟨g, cap, cur, e, hb, hU.at hg (hn g (by rw [e]; rfl)), r⟩
theorem RefAt.upd {S : Nat → Prop} {w w' : World} {bx gs cs : Nat} {lv : Value} {n : Nat} {d : DV} (h : RefAt w bx gs cs lv n d) (hU : Upd S w w') (hS : ∀ k, FootR bx gs lv k → ¬ S k) : RefAt w' bx gs cs lv n d :=
  ⟨hU.at h.hd (hS _ (.inl rfl)), h.hs.upd hU (hS _ (.inr (.inl rfl))), own_upd' h.hl hU (fun q e => hS q (.inr (.inr e))), h.lo, h.hi, h.l0, h.l1, h.fit, h.vis⟩
theorem RefAt.foot_lt {w : World} {bx gs cs : Nat} {lv : Value} {n : Nat} {d : DV} (h : RefAt w bx gs cs lv n d) {k : Nat} (hf : FootR bx gs lv k) : k < w.heap.size := by
  rcases hf with rfl | rfl | e
  · exact ltOf h.hd
  · exact h.hs.lt
  · exact (h.hl.lt _ e).2

theorem change_cell {w : World} {lv : Value} {l : List (Nat × ByteArray)} (h : w.ownsRow 0 94 2 lv l.length (pendV l)) {i : Nat} (hi : i < l.length) :
    ∃ g cap, lv = .slice (some ⟨g, 0, none⟩) l.length cap ∧ g < w.heap.size ∧ w.cell? ⟨g, i * 2, none⟩ = some (.int .i64 (l[i].1 : Int)) ∧ w.cell? ⟨g, i * 2 + 1, none⟩ = some (.string l[i].2) := by
  rcases h.2 with ⟨e, e'⟩ | ⟨g, cap, cur, e, hb, hg, hn, hc, hs, htk⟩
  · omega
  · have hx := pendV_get hi
    refine ⟨g, cap, e, ltOf hg, ?_, ?_⟩
    · rw [cellOf hg, ← hx.1, ← htk, List.getElem?_take, if_pos (by omega)]; simp
    · rw [cellOf hg, ← hx.2, ← htk, List.getElem?_take, if_pos (by omega)]; simp
theorem change_form {w : World} {lv : Value} {n : Nat} {xs : List Value} (h : w.ownsRow 0 94 2 lv n xs) : ∃ A c, lv = .slice A n c := by
  rcases h.2 with ⟨e, e0⟩ | ⟨g, cap, cur, e, _⟩
  · exact ⟨none, 0, by rw [e, e0]⟩
  · exact ⟨_, cap, e⟩
theorem applyW_length {b : List UInt8} {n : Nat} (hb : b.length = n) : ∀ (ws : List (Nat × ByteArray)), (∀ p ∈ ws, p.1 + p.2.size ≤ n) → (applyW b ws).length = n := by
  intro ws
  induction ws generalizing b with
  | nil => intro _; exact hb
  | cons p ws ih =>
    intro h
    show (applyW (splice b p.1 p.2.data.toList) ws).length = n
    refine ih ?_ (fun q hq => h q (by simp [hq]))
    rw [length_splice]
    · exact hb
    · rw [← Lib.size_eq, hb]; exact h p (by simp)

set_option maxRecDepth 100000 in
set_option maxHeartbeats 1600000 in
theorem Visible_any {w : World} {bx gs cs : Nat} {lv : Value} {n : Nat} {d : DV} (h : RefAt w bx gs cs lv n d) :
    Calls Tryz.prog 20 #[.pointer (some ⟨bx, 0, none⟩)] w fun e w' => ∃ g cap,
      e = .returned (.slice (some ⟨g, 0, none⟩) n cap) ∧ w.heap.size ≤ g ∧ BufAt w' g n cap d.vi ∧ Below w.heap.size w w' := by
  have c0 : w.cell? ⟨bx, 0, none⟩ = some (.slice (some ⟨gs, 0, none⟩) n cs) := cellOf h.hd 0
  have H := Lib.hid h
  have hx := ltOf h.hd
  have hlo := h.lo
  have hhi := h.hi
  obtain ⟨i0, hi, hz0, hz1, hz2⟩ := info_parts Tryz.infoByte
  have HI := Lib.hid hi
  have HZ0 := Lib.hid hz0
  have HZ1 := Lib.hid hz1
  have HZ2 := Lib.hid hz2
  clear h hi hz0 hz1 hz2
  go_enter Tryz.func20, Tryz.ntmps20
  have hown0 : (w.alloc (.cells #[] 5)).ownsRow w.heap.size 5 1 (.slice (some ⟨w.heap.size, 0, none⟩) 0 0) 0 [] :=
    ⟨rfl, .inr ⟨w.heap.size, 0, #[], rfl, Nat.le_refl _, allocAt _ rfl, Nat.le_refl _, by decide, rfl, rfl⟩⟩
  have HO0 := Lib.hid hown0
  have hB1 : Below w.heap.size w (w.alloc (.cells #[] 5)) := (Below.refl _ w).alloc (Nat.le_refl _) _
  have HB1 := Lib.hid hB1
  have hc1 : ∀ j u, (bytesV d.du)[j]? = some u → (w.alloc (.cells #[] 5)).cell? ((⟨gs, 0, none⟩ : Addr).add j) = some u := fun j u hu => by
    have hj : j < d.du.length := by
      obtain ⟨hj, _⟩ := List.getElem?_eq_some_iff.1 hu
      rwa [bytesV_length] at hj
    have e : (⟨gs, 0, none⟩ : Addr).add j = ⟨gs, j, none⟩ := by
      unfold Addr.add
      by_cases h : j = 0
      · subst h; rfl
      · simp [h]
    rw [e, World.cell?_alloc_past _ _ _ H.out.hs.lt, H.out.hs.cell (by rw [← H.out.hs.len]; exact hj), ← hu, bytesV_get hj]
  have HC1 := Lib.hid hc1
  have HLN := Lib.hid (show (bytesV d.du).length = n * 1 by rw [bytesV_length, H.out.hs.len, Nat.mul_one])
  clear hown0 hB1 hc1
  go_upto_region 2 with (at_builtin; refine wpList_append_own _ rfl _ _ 39 rfl w.heap.size 5 i0 (.int .u8 0) 1 1 Tryz.underlying39 HI.out HZ0.out HZ1.out HZ2.out rfl (by decide) _ 0 [] rfl HO0.out ⟨gs, 0, none⟩ n cs (bytesV d.du) rfl HLN.out HC1.out (bytesV_one _) (by simp only [maxLen]; omega) (by omega) (by simp) ?_; intro v' w1 hown hgrow _)
  obtain ⟨g, cap, rfl, hgb, hbuf⟩ := BufAt.of_own (base := w.heap.size) (n := n) (l := d.du) (v := v') (w := w1) (by simpa using hown) hlo
  have HBUF := Lib.hid hbuf
  have HW1 := Lib.hid (HB1.out.grown hgrow (by simp) (fun k e => (HO0.out.lt _ e).1))
  clear hown hgrow hbuf
  obtain ⟨m, hm⟩ : ∃ m, d.pe.length = m := ⟨_, rfl⟩
  have HM := Lib.hid hm
  obtain ⟨A, cl, hlv⟩ := change_form H.out.hl
  rw [hm] at hlv
  subst hlv
  clear hm c0
  have hm63 : (m : Int) ≤ 9223372036854775807 := by
    rcases H.out.hl.2 with ⟨e, e'⟩ | ⟨_, cc, _, e, _, _, hnc, hcc, _⟩
    · rw [← HM.out, e']; decide
    · have h1 := HM.out; simp only [maxLen] at hcc; omega
  go_wp2_with fail
  go_loopw [4] (fun vi wr => ∃ k : Nat, k ≤ m ∧ vi = .int .i64 k ∧ Hid (BufAt wr g n cap (applyW d.du (d.pe.take k))) ∧ Hid (Below w.heap.size w wr)) (fun vi _ => m - (intOf vi).toNat)
  case atStart => exact ⟨0, Nat.zero_le _, rfl, HBUF.out, HW1.out⟩
  case round =>
    obtain ⟨k, hk, rfl, hb, hB⟩ := hrel
    have hU : Upd (fun _ => False) w wr := Upd.of_below hB.out
    have H' := Lib.hid (H.out.upd hU (fun _ _ f => f))
    have c1 : wr.cell? ⟨bx, 1, none⟩ = some (.slice A m cl) := cellOf H'.out.hd 1
    clear hU
    by_cases hlt : k < m
    · have hkl : k < d.pe.length := by rw [HM.out]; exact hlt
      obtain ⟨gl, cl', hlv, hgl, q0, q1⟩ := change_cell H'.out.hl hkl
      injection hlv with hA _ _
      subst hA
      have hfit := H.out.fit _ (List.getElem_mem hkl)
      have hget : d.pe[k]? = some d.pe[k] := List.getElem?_eq_getElem hkl
      generalize d.pe[k] = ps at *
      obtain ⟨p, s⟩ := ps
      simp only at q0 q1 hfit
      have HG := Lib.hid hget
      have hgl' : gl < w.heap.size := H.out.foot_lt (.inr (.inr rfl))
      clear hkl hget
      go_wp2_with fail
      go_region_held3 (fun w' => w'.cell? ⟨bx, 1, none⟩ = some (.slice (some ⟨gl, 0, none⟩) m cl) ∧ w'.cell? ⟨gl, k * 2, none⟩ = some (.int .i64 (p : Int)) ∧ w'.cell? ⟨gl, k * 2 + 1, none⟩ = some (.string s))
        (first | go_keep | exact ⟨k1, k2, k3⟩ | exact ⟨c1, q0, q1⟩)
        (first
          | (go_at_call 45
             refine (apply_any g p n cap s (applyW d.du (d.pe.take k)) wr.drew (by exact hb.out.upd ((Upd.refl (fun _ => False) wr).drew) (fun f => f)) hfit (by omega)).mono ?_
             rintro e w2 ⟨rfl, h2, hU2⟩
             have k1 : w2.cell? ⟨bx, 1, none⟩ = some (.slice (some ⟨gl, 0, none⟩) m cl) := hU2.cell (w := wr.drew) c1 (by simp; omega)
             have k2 : w2.cell? ⟨gl, k * 2, none⟩ = some (.int .i64 (p : Int)) := hU2.cell (w := wr.drew) q0 (by simp; omega)
             have k3 : w2.cell? ⟨gl, k * 2 + 1, none⟩ = some (.string s) := hU2.cell (w := wr.drew) q1 (by simp; omega)
             have H2 := Lib.hid h2
             have HU2 := Lib.hid hU2
             clear h2 hU2))
      go_wp2_with fail
      go_roundw
      case rel =>
        refine ⟨k + 1, by omega, by simp, ?_, ?_⟩
        · show BufAt _ _ _ _ _
          rw [applyW_take_succ HG.out]; exact H2.out
        · have hu := HU2.out.of_drew
          exact hB.out.trans ⟨hu.os, hu.tape, hu.output, hu.size, fun i hi => hu.block i (Nat.lt_of_lt_of_le hi hB.out.size) (fun e => by omega)⟩
      case measure => simp [intOf]; omega
    · obtain rfl : k = m := by omega
      have hv : applyW d.du (d.pe.take k) = d.vi := by rw [List.take_of_length_le (by rw [HM.out]; exact Nat.le_refl _), H.out.vis]
      have HV := Lib.hid hv
      clear hv
      go_wp2_with fail
      go_ret
      exact ⟨g, cap, rfl, hgb, HV.out ▸ hb.out, hB.out⟩
end Go.Proofs.YthlmgookaljgnaaGreatDoor
