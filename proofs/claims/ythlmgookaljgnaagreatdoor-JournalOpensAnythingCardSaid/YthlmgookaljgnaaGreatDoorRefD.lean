/- The reference disk: Crash. -/
import Derived.Test.YthlmgookaljgnaaGreatDoorRefC
namespace Go.Proofs.YthlmgookaljgnaaGreatDoor
open Go.RowKit
set_option linter.unusedVariables false

/-- the survivors among the first k -/
def survK (keep : List Int) (pe : List (Nat × ByteArray)) (k : Nat) : List (Nat × ByteArray) := ((List.range k).filter fun (i : Nat) => decide ((i : Int) ∈ keep)).map fun (i : Nat) => pe[i]!
theorem survK_succ (keep : List Int) (pe : List (Nat × ByteArray)) (k : Nat) : survK keep pe (k + 1) = if decide ((k : Int) ∈ keep) = true then survK keep pe k ++ [pe[k]!] else survK keep pe k := by
  unfold survK
  rw [List.range_succ, List.filter_append]
  by_cases h : (k : Int) ∈ keep
  · simp [h]
  · simp [h]
theorem survK_all (keep : List Int) (pe : List (Nat × ByteArray)) : survK keep pe pe.length = survW pe keep := rfl
theorem survK_len (keep : List Int) (pe : List (Nat × ByteArray)) (k : Nat) : (survK keep pe k).length ≤ k := by
  have := List.length_filter_le (fun i => decide (((i : Nat) : Int) ∈ keep)) (List.range k)
  simp only [survK, List.length_map]
  simpa using this

section
variable {w : World} {bx gs cs : Nat} {lv : Value} {n : Nat} {d : DV}

set_option maxRecDepth 100000 in
set_option maxHeartbeats 3200000 in
theorem RefCrash_any (h : RefAt w bx gs cs lv n d) (keep : List Int) (ka : Option Addr) (kl kc : Nat) (hI : IntsAt w.heap.size w (.slice ka kl kc) keep) (hk : keep.length ≤ 100000000) (hm : d.pe.length ≤ 1000000) (torn : Int)
    (ht0 : -9223372036854775808 ≤ torn) (ht1 : torn ≤ 9223372036854775807) :
    Calls Tryz.prog 49 #[.pointer (some ⟨bx, 0, none⟩), .slice ka kl kc, .int .i64 torn] w fun e w' => e = .returned (.tuple #[]) ∧
      ∃ gs' cs' lv', RefAt w' bx gs' cs' lv' n (crashed d keep torn) ∧ Moves (FootR bx gs lv) (FootR bx gs' lv') w w' := by
  obtain ⟨A, cl, hlv⟩ := change_form h.hl
  have hcw1 : w.cell? ⟨bx, 1, none⟩ = some (.slice A d.pe.length cl) := by rw [cellOf h.hd 1, ← hlv]; rfl
  obtain ⟨i0, hi, hz0, hz1, hz2⟩ := info_parts Tryz.infoChange
  have HIo := Lib.hid hi
  have HZ0 := Lib.hid hz0
  have HZ1 := Lib.hid hz1
  have HZ2 := Lib.hid hz2
  have H := Lib.hid h
  have HI := Lib.hid hI
  have HLV := Lib.hid hlv
  have HC1 := Lib.hid hcw1
  obtain ⟨M, hM⟩ : ∃ M, d.pe.length = M := ⟨_, rfl⟩
  have HM := Lib.hid hM
  rw [hM] at hm
  clear h hI hlv hi hz0 hz1 hz2 hcw1 hM
  go_enter Tryz.func49, Tryz.ntmps49
  go_wp2_with fail
  go_loopw [6, 7] (fun vl vi wr => ∃ k : Nat, k ≤ M ∧ vi = .int .i64 k ∧ Hid (wr.ownsRow w.heap.size 94 2 vl (survK keep d.pe k).length (pendV (survK keep d.pe k))) ∧ Hid (Below w.heap.size w wr)) (fun _ vi _ => M - (intOf vi).toNat)
  case atStart => exact ⟨0, Nat.zero_le _, rfl, World.ownsRow_nil _ _ _ _, Below.refl _ _⟩
  case round =>
    obtain ⟨k, hkM, rfl, hown, hB⟩ := hrel
    have H' := Lib.hid (H.out.upd (Upd.of_below (S := fun _ => False) hB.out) (fun _ _ f => f))
    have c1 : wr.cell? ⟨bx, 1, none⟩ = some (.slice A M cl) := by
      rw [cellOf H'.out.hd 1, HLV.out, HM.out]; rfl
    have hsz := hB.out.size
    by_cases hlt : k < M
    · have hkl : k < d.pe.length := by rw [HM.out]; exact hlt
      obtain ⟨gl, cl', hlv', hgl, q0, q1⟩ := change_cell H'.out.hl hkl
      have hlv2 := hlv'
      rw [HLV.out] at hlv2
      injection hlv2 with hA _ _
      subst hA
      have hget : d.pe[k]! = d.pe[k] := getElem!_pos d.pe k hkl
      have hsk := survK_succ keep d.pe k
      rw [hget] at hsk
      generalize d.pe[k] = ps at *
      obtain ⟨p, s⟩ := ps
      simp only at q0 q1
      have HSK := Lib.hid hsk
      have hIk : IntsAt wr.heap.size wr (.slice ka kl kc) keep := HI.out.up (Upd.of_below (S := fun _ => False) hB.out) (Nat.le_refl _) hsz
      have HIK := Lib.hid hIk
      have hlen := survK_len keep d.pe k
      clear hkl hlv' hget hsk hIk
      go_wp2_with fail
      refine (has_any wr ka kl kc keep (k : Int) HIK.out (by omega)).mono ?_
      rintro e w' ⟨rfl, rfl⟩
      by_cases hin : (k : Int) ∈ keep
      · have hd1 : decide ((k : Int) ∈ keep) = true := decide_eq_true hin
        rw [hd1]
        have HSK1 := Lib.hid (show survK keep d.pe (k + 1) = survK keep d.pe k ++ [(p, s)] by rw [HSK.out, hd1, if_pos rfl])
        clear hd1 hin
        go_upto_region 3 with (at_builtin; refine wpList_append_own _ rfl _ _ 53 rfl w.heap.size 94 i0 (.agg #[.int .i64 0, .string ByteArray.empty]) 2 24 Tryz.underlying53 HIo.out HZ0.out HZ1.out HZ2.out rfl (by decide) _ _ _ rfl (hown.out.alloc _) ⟨wr.heap.size, 0, none⟩ 1 1 [.int .i64 (p : Int), .string s] rfl rfl (World.news_of_block (cs := #[.int .i64 p, .string s]) (t := 94) (fr := (0, 0)) (allocAt _ rfl)) (fun u hu => by simp at hu; rcases hu with rfl | rfl <;> rfl) (by simp only [maxLen]; omega) (by omega) (by simp; omega) ?_; intro v' w1 hown' hgrow _)
        have HW := Lib.hid ((hB.out.trans (((Below.refl _ wr).alloc (Nat.le_refl _) (.cells #[.int .i64 (p : Int), .string s] 94)).mono hsz)).grown hgrow (by simp; omega) (fun k e => (hown.out.lt _ e).1))
        have HO := Lib.hid hown'
        clear hown' hgrow
        go_wp2_with fail
        go_roundw
        case rel =>
          refine ⟨k + 1, by omega, by simp, ?_, HW.out⟩
          have h := HO.out
          show World.ownsRow _ _ _ _ _ _ _
          rw [HSK1.out, pendV_append, List.length_append]
          exact h
        case measure => simp [intOf] <;> omega
      · have hd1 : decide ((k : Int) ∈ keep) = false := decide_eq_false hin
        rw [hd1]
        have HSK1 := Lib.hid (show survK keep d.pe (k + 1) = survK keep d.pe k by rw [HSK.out, hd1]; rfl)
        clear hd1 hin
        go_wp2_with fail
        go_roundw
        case rel => exact ⟨k + 1, by omega, by simp, HSK1.out ▸ hown, hB⟩
        case measure => simp [intOf] <;> omega
    · obtain rfl : k = M := by omega
      have hws : survK keep d.pe k = survW d.pe keep := by rw [← HM.out]; exact survK_all keep d.pe
      obtain ⟨ws, hw⟩ : ∃ ws, survW d.pe keep = ws := ⟨_, rfl⟩
      have hlen := survK_len keep d.pe k
      rw [hws, hw] at hlen
      have HO := Lib.hid (show wr.ownsRow w.heap.size 94 2 u6 ws.length (pendV ws) by have h := hown.out; rw [hws, hw] at h; exact h)
      have HWS := Lib.hid hw
      obtain ⟨m, hm2⟩ : ∃ m, ws.length = m := ⟨_, rfl⟩
      have HM2 := Lib.hid hm2
      obtain ⟨W1, hW1⟩ : ∃ W1, wr = W1 := ⟨_, rfl⟩
      have HT := Lib.hid (show (tornW ws torn).length = m by rw [tornW_length]; exact hm2)
      have hfits : ∀ q ∈ ws, q.1 + q.2.size ≤ n := fun q hq => by
        rw [← hw] at hq
        simp only [survW, List.mem_map] at hq
        obtain ⟨i, hi, rfl⟩ := hq
        have hi' := survN_lt hi
        rw [getElem!_pos d.pe i hi']
        exact H.out.fit _ (List.getElem_mem _)
      have HF := Lib.hid hfits
      rw [hm2] at hlen
      have hform : ∃ A' c', u6 = .slice A' m c' ∧ ∀ j, (hj : j < ws.length) → ∃ gl, A' = some ⟨gl, 0, none⟩ ∧ w.heap.size ≤ gl ∧ W1.cell? ⟨gl, j * 2, none⟩ = some (.int .i64 (ws[j].1 : Int)) ∧ W1.cell? ⟨gl, j * 2 + 1, none⟩ = some (.string ws[j].2) := by
        rw [← hW1, ← hm2]
        have hO := HO.out
        rcases hO.2 with ⟨e, e'⟩ | ⟨g, cap, cur, e, hb, hg, hn, hc, hs, htk⟩
        · exact ⟨none, 0, by rw [e, e'], fun j hj => by omega⟩
        · refine ⟨_, _, e, fun j hj => ⟨g, rfl, hb, ?_, ?_⟩⟩
          · have hx := pendV_get hj
            rw [cellOf hg, ← hx.1, ← htk, List.getElem?_take, if_pos (by omega)]; simp
          · have hx := pendV_get hj
            rw [cellOf hg, ← hx.2, ← htk, List.getElem?_take, if_pos (by omega)]; simp
      obtain ⟨A', c', hu6, hcells⟩ := hform
      have HCE := Lib.hid hcells
      have HW1 := Lib.hid hW1
      have H1 := Lib.hid (show RefAt W1 bx gs cs lv n d by rw [← hW1]; exact H'.out)
      have hB1 := Lib.hid (show Below w.heap.size w W1 by rw [← hW1]; exact hB.out)
      have c1' : W1.cell? ⟨bx, 1, none⟩ = some (.slice A k cl) := by rw [← hW1]; exact c1
      subst hu6
      clear hws hw hm2 hfits hcells hown HC1 c1
      rw [hW1]
      clear hW1
      go_wp2_with fail
      clear c1'
      go_loopw [8] (fun vi wr => ∃ j : Nat, j ≤ m ∧ vi = .int .i64 j ∧ Hid (BufAt wr gs n cs (applyW d.du ((tornW ws torn).take j))) ∧ Hid (Upd (· = gs) W1 wr)) (fun vi _ => m - (intOf vi).toNat)
      case atStart => exact ⟨0, Nat.zero_le _, rfl, H1.out.hs, Upd.refl _ _⟩
      case round =>
        obtain ⟨j, hj, rfl, hb, hU⟩ := hrel
        have hgx : gs ≠ bx := by
          obtain ⟨tl, e, _⟩ := H1.out.hs.ex
          exact ty_ne e H1.out.hd (by decide)
        have e0 : wr.cell? ⟨bx, 0, none⟩ = some (.slice (some ⟨gs, 0, none⟩) n cs) := hU.out.cell (cellOf H1.out.hd 0) (fun e => hgx e.symm)
        by_cases hlt : j < m
        · have hjl : j < ws.length := by rw [HM2.out]; exact hlt
          obtain ⟨gl, hA, hgl, q0, q1⟩ := HCE.out j hjl
          have hgs : gs < w.heap.size := H.out.hs.lt
          have hgl' : gl ≠ gs := by omega
          have r0 := hU.out.cell q0 hgl'
          have r1 := hU.out.cell q1 hgl'
          have hfit := HF.out _ (List.getElem_mem hjl)
          have hget : ws[j]? = some ws[j] := List.getElem?_eq_getElem hjl
          subst hA
          generalize ws[j] = ps at *
          obtain ⟨p, s⟩ := ps
          simp only at r0 r1 hfit
          have hT := tornW_some (torn := torn) hget
          rw [HM2.out] at hT
          have hnn := H.out.hi
          by_cases hc : j + 1 = m ∧ 0 ≤ torn ∧ torn < s.size
          · obtain ⟨hc1, hc2, hc3⟩ := hc
            rw [if_pos ⟨hc1, hc2⟩] at hT
            obtain ⟨tn, rfl⟩ : ∃ tn : Nat, torn = tn := Int.eq_ofNat_of_zero_le hc2
            have hT' : (tornW ws (tn : Int))[j]? = some (p, s.extract 0 tn) := by rw [hT, takeB_extract]; rfl
            have HTT := Lib.hid hT'
            have hfit' : p + (s.extract 0 tn).size ≤ n := by rw [takeB_extract, takeB_size]; omega
            have hs63 : (s.size : Int) ≤ 9223372036854775807 := by omega
            have hjm : ((j : Int) == ((j + 1 : Nat) : Int) - 1) = true := by simp
            clear hjl q0 q1 hget hT hT' hlt
            subst hc1
            go_wp2_with fail
            all_goals
              go_region_held3 (fun w' => w'.cell? ⟨bx, 0, none⟩ = some (.slice (some ⟨gs, 0, none⟩) n cs) ∧ w'.cell? ⟨gl, j * 2, none⟩ = some (.int .i64 (p : Int)))
                (first | go_keep | exact ⟨k1, k2⟩ | exact ⟨e0, r0⟩)
                (first
                  | (go_at_call 45
                     refine (apply_any gs p n cs (s.extract 0 tn) (applyW d.du ((tornW ws (tn : Int)).take j)) wr.drew (by exact hb.out.upd ((Upd.refl (fun _ => False) wr).drew) (fun f => f)) hfit' (by omega)).mono ?_
                     rintro e w2 ⟨rfl, h2, hU2⟩
                     have k1 : w2.cell? ⟨bx, 0, none⟩ = some (.slice (some ⟨gs, 0, none⟩) n cs) := hU2.cell (w := wr.drew) e0 (fun e => hgx e.symm)
                     have k2 : w2.cell? ⟨gl, j * 2, none⟩ = some (.int .i64 (p : Int)) := hU2.cell (w := wr.drew) r0 hgl'
                     have H2 := Lib.hid h2
                     have HU2 := Lib.hid hU2
                     clear h2 hU2))
              go_wp2_with fail
              go_roundw
              case rel =>
                refine ⟨j + 1, by omega, by congr 1 <;> omega, ?_, hU.out.trans HU2.out.of_drew (fun _ _ e => e)⟩
                show BufAt _ _ _ _ _
                rw [applyW_take_succ HTT.out]; exact H2.out
              case measure => simp [intOf] <;> omega
          · have hT' : (tornW ws torn)[j]? = some (p, s) := by
              rw [hT]
              by_cases h2 : j + 1 = m ∧ 0 ≤ torn
              · rw [if_pos h2, takeB_all s _ (by have := h2.1; have := h2.2; omega)]
              · rw [if_neg h2]
            have HTT := Lib.hid hT'
            have hfit' : p + s.size ≤ n := hfit
            have hs63 : (s.size : Int) ≤ 9223372036854775807 := by omega
            have HCN := Lib.hid hc
            clear hjl q0 q1 hget hT hT'
            by_cases hc1 : j + 1 = m
            · have hjm : ((j : Int) == ((j + 1 : Nat) : Int) - 1) = true := by simp
              clear hlt
              by_cases hc2 : 0 ≤ torn
              · have hc3 : ¬ torn < s.size := fun x => hc ⟨hc1, hc2, x⟩
                clear hc
                subst hc1
                go_wp2_with fail
                all_goals
                  go_region_held3 (fun w' => w'.cell? ⟨bx, 0, none⟩ = some (.slice (some ⟨gs, 0, none⟩) n cs) ∧ w'.cell? ⟨gl, j * 2, none⟩ = some (.int .i64 (p : Int)))
                    (first | go_keep | exact ⟨k1, k2⟩ | exact ⟨e0, r0⟩)
                    (first
                      | (go_at_call 45
                         refine (apply_any gs p n cs s (applyW d.du ((tornW ws torn).take j)) wr.drew (by exact hb.out.upd ((Upd.refl (fun _ => False) wr).drew) (fun f => f)) hfit' (by omega)).mono ?_
                         rintro e w2 ⟨rfl, h2, hU2⟩
                         have k1 : w2.cell? ⟨bx, 0, none⟩ = some (.slice (some ⟨gs, 0, none⟩) n cs) := hU2.cell (w := wr.drew) e0 (fun e => hgx e.symm)
                         have k2 : w2.cell? ⟨gl, j * 2, none⟩ = some (.int .i64 (p : Int)) := hU2.cell (w := wr.drew) r0 hgl'
                         have H2 := Lib.hid h2
                         have HU2 := Lib.hid hU2
                         clear h2 hU2))
                  go_wp2_with fail
                  go_roundw
                  case rel =>
                    refine ⟨j + 1, by omega, by congr 1 <;> omega, ?_, hU.out.trans HU2.out.of_drew (fun _ _ e => e)⟩
                    show BufAt _ _ _ _ _
                    rw [applyW_take_succ HTT.out]; exact H2.out
                  case measure => simp [intOf] <;> omega
              · clear hc
                subst hc1
                go_wp2_with fail
                all_goals
                  go_region_held3 (fun w' => w'.cell? ⟨bx, 0, none⟩ = some (.slice (some ⟨gs, 0, none⟩) n cs) ∧ w'.cell? ⟨gl, j * 2, none⟩ = some (.int .i64 (p : Int)))
                    (first | go_keep | exact ⟨k1, k2⟩ | exact ⟨e0, r0⟩)
                    (first
                      | (go_at_call 45
                         refine (apply_any gs p n cs s (applyW d.du ((tornW ws torn).take j)) wr.drew (by exact hb.out.upd ((Upd.refl (fun _ => False) wr).drew) (fun f => f)) hfit' (by omega)).mono ?_
                         rintro e w2 ⟨rfl, h2, hU2⟩
                         have k1 : w2.cell? ⟨bx, 0, none⟩ = some (.slice (some ⟨gs, 0, none⟩) n cs) := hU2.cell (w := wr.drew) e0 (fun e => hgx e.symm)
                         have k2 : w2.cell? ⟨gl, j * 2, none⟩ = some (.int .i64 (p : Int)) := hU2.cell (w := wr.drew) r0 hgl'
                         have H2 := Lib.hid h2
                         have HU2 := Lib.hid hU2
                         clear h2 hU2))
                  go_wp2_with fail
                  go_roundw
                  case rel =>
                    refine ⟨j + 1, by omega, by congr 1 <;> omega, ?_, hU.out.trans HU2.out.of_drew (fun _ _ e => e)⟩
                    show BufAt _ _ _ _ _
                    rw [applyW_take_succ HTT.out]; exact H2.out
                  case measure => simp [intOf] <;> omega
            · have hc1' : ((j : Int) == (m : Int) - 1) = false := by simp; omega
              clear hc
              go_wp2_with fail
              all_goals
                go_region_held3 (fun w' => w'.cell? ⟨bx, 0, none⟩ = some (.slice (some ⟨gs, 0, none⟩) n cs) ∧ w'.cell? ⟨gl, j * 2, none⟩ = some (.int .i64 (p : Int)))
                  (first | go_keep | exact ⟨k1, k2⟩ | exact ⟨e0, r0⟩)
                  (first
                    | (go_at_call 45
                       refine (apply_any gs p n cs s (applyW d.du ((tornW ws torn).take j)) wr.drew (by exact hb.out.upd ((Upd.refl (fun _ => False) wr).drew) (fun f => f)) hfit' (by omega)).mono ?_
                       rintro e w2 ⟨rfl, h2, hU2⟩
                       have k1 : w2.cell? ⟨bx, 0, none⟩ = some (.slice (some ⟨gs, 0, none⟩) n cs) := hU2.cell (w := wr.drew) e0 (fun e => hgx e.symm)
                       have k2 : w2.cell? ⟨gl, j * 2, none⟩ = some (.int .i64 (p : Int)) := hU2.cell (w := wr.drew) r0 hgl'
                       have H2 := Lib.hid h2
                       have HU2 := Lib.hid hU2
                       clear h2 hU2))
                go_wp2_with fail
                go_roundw
                case rel =>
                  refine ⟨j + 1, by omega, by congr 1 <;> omega, ?_, hU.out.trans HU2.out.of_drew (fun _ _ e => e)⟩
                  show BufAt _ _ _ _ _
                  rw [applyW_take_succ HTT.out]; exact H2.out
                case measure => simp [intOf] <;> omega
        · obtain rfl : j = m := by omega
          have hall : applyW d.du ((tornW ws torn).take j) = (crashed d keep torn).du := by
            rw [List.take_of_length_le (by rw [HT.out]; exact Nat.le_refl _)]
            show _ = applyW d.du (tornW (survW d.pe keep) torn)
            rw [HWS.out]
          have HALL := Lib.hid hall
          have Hr := Lib.hid (hU.out.at H1.out.hd (Ne.symm hgx))
          have e1 : wr.cell? ⟨bx, 1, none⟩ = some lv := cellOf Hr.out 1
          have e2 : wr.cell? ⟨bx, 2, none⟩ = some (.bool d.off) := cellOf Hr.out 2
          have e3 : wr.cell? ⟨bx, 3, none⟩ = some (.int .i64 d.left) := cellOf Hr.out 3
          have f1 : wr.frozen? ⟨bx, 1, none⟩ = false := frozenOf Hr.out 1
          have f2 : wr.frozen? ⟨bx, 2, none⟩ = false := frozenOf Hr.out 2
          have f3 : wr.frozen? ⟨bx, 3, none⟩ = false := frozenOf Hr.out 3
          clear hall
          go_wp2_with fail
          go_end0
          have U : Upd (· = bx) wr (((wr.setCell ⟨bx, 1, none⟩ (.slice none 0 0)).setCell ⟨bx, 2, none⟩ (.bool false)).setCell ⟨bx, 3, none⟩ (.int .i64 0)) := (((Upd.refl (· = bx) wr).setCell _ _ (.inl rfl)).setCell _ _ (.inl rfl)).setCell _ _ (.inl rfl)
          have hbuf := hb.out
          rw [HALL.out] at hbuf
          refine ⟨rfl, gs, cs, .slice none 0 0, ⟨?_, hbuf.upd U hgx, World.ownsRow_nil _ _ _ _, H.out.lo, H.out.hi, Int.le_refl _, (by show (0 : Int) ≤ 9223372036854775807; decide), by simp [crashed], rfl⟩, ?_, ?_⟩
          · rw [setOf_ (setOf_ (setOf_ Hr.out 1 _) 2 _) 3 _]; rfl
          · exact ((Upd.of_below hB1.out).trans hU.out (fun _ _ e => .inr (.inl e))).trans U (fun _ _ e => .inl e)
          · rintro q (rfl | rfl | e)
            · exact .inl (.inl rfl)
            · exact .inl (.inr (.inl rfl))
            · cases e
end
end Go.Proofs.YthlmgookaljgnaaGreatDoor
