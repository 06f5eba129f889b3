/- The journal: Append.
  The journal, plain: what load reads is what Append wrote.
  The journal and its disk, plain: what a call of Append keeps.
  The journal's laws: pick, size, content.
  The journal's calls, for the laws.
  few of the journal's laws.
  same, of the journal's laws.
-/
import Derived.Test.YthlmgookaljgnaaGreatDoorMf
namespace Go.Proofs.YthlmgookaljgnaaGreatDoor
open Go.RowKit Go.Shelf
set_option linter.unusedVariables false
set_option linter.unusedSimpArgs false

/-- what Append's loop has done -/
structure ApS (w : World) (bt bb : Nat) (t : TV) (l : List ByteArray) (wr : World) : Prop where
  tape : ∃ lv, TapeAt wr bt 65 [] lv (growAll t l) ∧ ∀ g, lv.ownBlock = some g → w.heap.size ≤ g
  bld : Lib.IsBuilder 71 5 bb bb (Lib.byteCells (outE t l).data.toList) wr
  bel : Below w.heap.size w wr

theorem bld_upd {S : Nat → Prop} {T e : TypeId} {B b : Nat} {bs : List Value} {w w' : World} (h : Lib.IsBuilder T e B b bs w) (hU : Upd S w w') (hS : ¬ S b) (hS2 : ∀ g cs fz, w.heap[g]? = some (.cells cs e fz) → ¬ S g) : Lib.IsBuilder T e B b bs w' := by
  have one : ∀ p, Lib.BuilderAt T e B b p bs w → Lib.BuilderAt T e B b p bs w' := fun p h => by
    obtain ⟨hB, v, hb, ho, hn⟩ := h
    refine ⟨hB, v, (hU.block _ (ltOf hb) hS).trans hb, ⟨ho.1, ?_⟩, hn⟩
    rcases ho.2 with e1 | ⟨g, cap, cur, e1, e2, hg, r⟩
    · exact .inl e1
    · exact .inr ⟨g, cap, cur, e1, e2, (hU.block _ (ltOf hg) (hS2 _ _ _ hg)).trans hg, r⟩
  exact h.imp (one _) (one _)
theorem TapeAt.others {w w' : World} {b bb : Nat} {T : TypeId} {rest : List Value} {lv : Value} {t : TV} (h : TapeAt w b T rest lv t) (hT : T ≠ 5) (hk : Lib.OthersKept 5 (some bb) w w') (h1 : b ≠ bb) (h2 : lv.ownBlock ≠ some bb) : TapeAt w' b T rest lv t := by
  refine h.kept fun k hk' hf => ?_
  rcases hf with rfl | hf
  · rw [h.cells]; exact hk _ _ h.cells (fun e => h1 (by injection e)) (fun c fz e => hT (by injection e))
  · rcases h.row.2 with ⟨e, _⟩ | ⟨g, cap, cur, e, _, hg, _⟩
    · rw [e] at hf; cases hf
    · have hf' := hf
      rw [e] at hf
      injection hf with hf
      subst hf
      rw [hg]; exact hk _ _ hg (fun e' => h2 (by rw [hf', e'])) (fun c fz e => by injection e with _ e _; exact absurd e (by decide))

theorem outE_ge (l : List ByteArray) : ∀ t, l.length ≤ (outE t l).size := by
  induction l with
  | nil => intro t; exact Nat.zero_le _
  | cons x l ih => intro t; rw [outE, ByteArray.size_append, List.length_cons]; have := ih (growT t x); have := recE_size t.head x; omega
theorem cell_keep3 {w w' : World} {b o : Nat} {v : Value} {o1 o2 o3 : Obj} (h : ((w.alloc o1).alloc o2).alloc o3 = w') (hc : w.cell? ⟨b, o, none⟩ = some v) : w'.cell? ⟨b, o, none⟩ = some v := by
  subst h
  have : b < w.heap.size := World.block_lt_of_cell? _ _ hc
  rw [World.cell?_alloc_past _ _ _ (by simp; omega), World.cell?_alloc_past _ _ _ (by simp; omega), World.cell?_alloc_past _ _ _ this]; exact hc
theorem wbox_of {w w' : World} {jb : Nat} {x : Int} {s : ByteArray} (h : ((w.alloc (.cells #[.pointer (some ⟨jb, 0, none⟩)] 28)).alloc (.cells #[.int .i64 x] 3)).alloc (.cells #[.string s] 9) = w') :
    WBox w' w.heap.size jb x s ∧ Below w.heap.size w w' ∧ w'.heap.size = w.heap.size + 3 := by
  subst h
  refine ⟨⟨?_, ?_, allocAt _ (by simp)⟩, (((Below.refl _ w).alloc (Nat.le_refl _) _).alloc (by simp) _).alloc (by simp; omega) _, by simp⟩
  · rw [allocOld (by simp; omega), allocOld (by simp)]; exact allocAt _ rfl
  · rw [allocOld (by simp)]; exact allocAt _ (by simp)
theorem first4_at {W6 Wa Wb : World} {jb bd n : Nat} {d : DV} {p : Nat} {s : ByteArray} {F : Nat → Prop} {ty : TypeId} (hD : DiskF W6 bd n d F)
    (ha : ((W6.drew.alloc (.cells #[.pointer (some ⟨jb, 0, none⟩)] 28)).alloc (.cells #[.int .i64 ((p : Int) + 1)] 3)).alloc (.cells #[.string (s.extract 1 s.size)] 9) = Wa)
    (hb : ((Wa.alloc (.cells #[.pointer (some ⟨jb, 0, none⟩)] 28)).alloc (.cells #[.int .i64 (p : Int)] 3)).alloc (.cells #[.string (s.extract 0 1)] 9) = Wb)
    (hj : W6.cell? ⟨jb, 3, none⟩ = some (.pointer (some ⟨bd, 0, none⟩))) (nj : ¬ F jb) (hp : p + s.size ≤ n) (hs : 1 ≤ s.size) (hl : d.pe.length ≤ 100000) :
    Calls Tryz.prog 32 #[.slice (some ⟨Wb.heap.size, 0, none⟩) 4 4] (Wb.alloc (.cells #[f4v bd W6.heap.size Wa.heap.size 0, f4v bd W6.heap.size Wa.heap.size 1, f4v bd W6.heap.size Wa.heap.size 2, f4v bd W6.heap.size Wa.heap.size 3] ty)) fun e W' =>
      ∃ c : Int, e = .returned (.int .i64 c) ∧ (∃ F', DiskF W' bd n (if c = 0 then syncD (dd3 d p s) else ddB d p s) F' ∧ (∀ k, F' k → F k ∨ W6.heap.size ≤ k) ∧ Upd F W6 W') ∧
        ((c = 0 ∧ d.off = false ∧ (dd1 d p s).off = false ∧ (dd3 d p s).off = false) ∨ (c = 251 ∧ ¬ (d.off = false ∧ (dd1 d p s).off = false ∧ (dd3 d p s).off = false))) := by
  obtain ⟨a1, a2, a3⟩ := wbox_of ha
  obtain ⟨b1, b2, b3⟩ := wbox_of hb
  have sd : W6.drew.heap.size = W6.heap.size := rfl
  rw [sd] at a1 a2 a3
  have hWb : Below W6.heap.size W6 Wb := ((Below.refl _ W6).drew.trans a2).trans (b2.mono (by omega))
  have hWc : Below W6.heap.size W6 (Wb.alloc (.cells #[f4v bd W6.heap.size Wa.heap.size 0, f4v bd W6.heap.size Wa.heap.size 1, f4v bd W6.heap.size Wa.heap.size 2, f4v bd W6.heap.size Wa.heap.size 3] ty)) := hWb.alloc hWb.size _
  have hFl : ∀ k, F k → k < W6.heap.size := fun k hk => hD.lt hk
  have hjl := World.block_lt_of_cell? _ _ hj
  refine (first4_any (hD.upd (Upd.of_below (S := fun _ => False) hWc) (fun _ _ f => f)) (b1 := W6.heap.size) (b2 := Wa.heap.size) (jb := jb) (p := p) (s := s) ?_ ?_ (allocAt _ rfl) ((hWc.cell (p := ⟨jb, 3, none⟩) hjl).trans hj)
    (fun k h1 _ h => by have := hFl k h; omega) (fun k h1 _ h => by have := hFl k h; omega) (fun h => by have := hFl _ h; omega) nj hp hs hl).mono ?_
  · rw [show ((p + 1 : Nat) : Int) = (p : Int) + 1 by omega]
    exact (a1.kept fun k h1 h2 => b2.block k (by omega)).kept fun k h1 h2 => allocOld (by omega) _
  · exact b1.kept fun k h1 h2 => allocOld (by omega) _
  · have fr : ∀ F' W', Moves F F' (Wb.alloc (.cells #[f4v bd W6.heap.size Wa.heap.size 0, f4v bd W6.heap.size Wa.heap.size 1, f4v bd W6.heap.size Wa.heap.size 2, f4v bd W6.heap.size Wa.heap.size 3] ty)) W' → (∀ k, F' k → F k ∨ W6.heap.size ≤ k) ∧ Upd F W6 W' := fun F' W' hm =>
      ⟨fun k hk => (hm.2 k hk).imp id (fun h => Nat.le_trans hWc.size h), (Upd.of_below (S := F) hWc).trans hm.1 (fun _ _ h => h)⟩
    rintro e W' (⟨rfl, hI⟩ | ⟨rfl, ⟨F', h1, h2⟩, h3⟩)
    · obtain ⟨F', h1, h2⟩ := hI.disk
      exact ⟨0, rfl, ⟨F', by rw [if_pos rfl]; exact h1, fr F' W' h2⟩, .inl ⟨rfl, hI.o0 (by omega), hI.o1 (by omega), hI.o3 (by omega)⟩⟩
    · exact ⟨251, rfl, ⟨F', by rw [if_neg (by decide)]; exact h1, fr F' W' h2⟩, .inr ⟨rfl, h3⟩⟩

theorem Append_nil (lsv : Value) (w : World) : Calls Tryz.prog 7 #[.pointer none, lsv] w fun e w' => e = .returned (.int .i64 1) ∧ w = w' := by
  go_enter Tryz.func7, Tryz.ntmps7
  go_wp2
  go_ret
  exact ⟨rfl, rfl⟩

set_option maxRecDepth 100000 in
set_option maxHeartbeats 4000000 in
theorem Append_any {w : World} {jb bd n : Nat} {br : Bool} {t : TV} {d : DV} {G : Nat → Prop} (h : JG w jb bd n br t d G) (hn : n ≤ 800000) (hR : RoundLaid w) (sv : Value) (l : List ByteArray) (hsl : SL w sv l) (hl : l.length ≤ 100) (hls : ∀ r ∈ l, r.size ≤ 1000000) (hpe : d.pe.length ≤ 100000) (hN0 : 3 < w.heap.size) :
    Calls Tryz.prog 7 #[.pointer (some ⟨jb, 0, none⟩), sv] w fun e w' => e = .returned (.int .i64 (appJ n br t d l).1) ∧ ∃ G', JG w' jb bd n (appJ n br t d l).2.1 (appJ n br t d l).2.2.1 (appJ n br t d l).2.2.2 G' ∧ Moves G G' w w' := by
  obtain ⟨lv, F, hT, hF, hlN, hjF, hG0⟩ := h.parts
  obtain ⟨la, ln, lc, rfl⟩ : ∃ la ln lc, lv = .slice la ln lc := by
    rcases hT.row.2 with ⟨e, _⟩ | ⟨g, cap, cur, e, _⟩
    · exact ⟨_, _, _, e⟩
    · exact ⟨_, _, _, e⟩
  have CL := Lib.hid (fun W (hr : W.ownsRow 0 9 1 (.slice la ln lc) t.recs.length (strV t.recs)) => Clone_any W (.slice la ln lc) t.recs hr hT.ln)
  have HT := Lib.hid hT
  have HF := Lib.hid hF
  have HGG := Lib.hid hG0
  have HLN := Lib.hid hlN
  have HJF := Lib.hid hjF
  have HH := Lib.hid h
  have c4 : w.cell? ⟨jb, 4, none⟩ = some (.bool br) := cellOf hT.cells 4
  have CF := Lib.hid (ContainsS_any w sv l hsl (by omega) 26 #[] (by simp) (fun r => decide (65536 < r.size)) (fun s hs => long_any s (by have := hls s hs; omega) w) (enters_of Tryz.func26 (by kernel_rfl) rfl))
  have HSL := Lib.hid hsl
  have HR := Lib.hid hR
  have hjw := ltOf hT.cells
  clear hT hF hG0 hlN hjF h hsl hR
  by_cases hlong : br = true ∨ l.any (fun r => decide (65536 < r.size)) = true
  · have HA : Hid (appJ n br t d l = (260, br, t, d)) := Lib.hid (if_pos hlong)
    cases br with
    | true =>
      go_enter Tryz.func7, Tryz.ntmps7
      go_wp2
      go_ret
      rw [HA.out]
      exact ⟨rfl, G, HH.out, Moves.refl _ _⟩
    | false =>
      have hany : l.any (fun r => decide (65536 < r.size)) = true := hlong.resolve_left (by simp)
      rw [hany] at CF
      clear hlong hany
      go_enter Tryz.func7, Tryz.ntmps7
      go_wp2_with (go_at_call 27; refine CF.out.mono ?_; rintro e w' ⟨rfl, rfl⟩)
      go_ret
      rw [HA.out]
      exact ⟨rfl, G, HH.out, Moves.refl _ _⟩
  · have hbr : br = false := by cases br <;> simp_all
    have hany : l.any (fun r => decide (65536 < r.size)) = false := Bool.eq_false_iff.2 (fun e => hlong (.inr e))
    subst hbr
    rw [hany] at CF
    have hsm : ∀ r ∈ l, r.size ≤ 65536 := fun r hr => by
      have := List.any_eq_false.1 hany r hr
      simpa using this
    have HSM := Lib.hid hsm
    have HLG := Lib.hid hlong
    have k0 : w.cell? ⟨jb, 0, none⟩ = some (.slice la ln lc) := cellOf HT.out.cells 0
    have k1 : w.cell? ⟨jb, 1, none⟩ = some (.string t.head) := cellOf HT.out.cells 1
    have k2 : w.cell? ⟨jb, 2, none⟩ = some (.int .i64 (t.size : Int)) := cellOf HT.out.cells 2
    clear hany hsm hlong
    go_enter Tryz.func7, Tryz.ntmps7
    go_wp2_with (first
      | (go_at_call 27; refine CF.out.mono ?_; rintro e w' ⟨rfl, rfl⟩)
      | fail)
    refine (CL.out _ (HT.out.row.alloc _)).mono ?_
    rintro e W1 ⟨v, rfl, hO, hB⟩
    obtain ⟨va, vn, vc, rfl⟩ : ∃ va vn vc, v = .slice va vn vc := by
      rcases hO.2 with ⟨e, _⟩ | ⟨g, cap, cur, e, _⟩
      · exact ⟨_, _, _, e⟩
      · exact ⟨_, _, _, e⟩
    have hb1 : W1.heap[w.heap.size]? = some (.cells #[.slice la ln lc, .string t.head, .int .i64 (t.size : Int)] 65 (0, 0)) := by
      rw [hB.block _ (by simp)]; exact allocAt _ rfl
    have hs1 : w.heap.size + 1 ≤ W1.heap.size := by have := hB.size; simpa using this
    have hS0 : ApS w w.heap.size W1.heap.size t [] ((W1.setCell ⟨w.heap.size, 0, none⟩ (.slice va vn vc)).alloc (.cells #[.pointer none, .slice none 0 0] 71)) := by
      have hty : (Value.slice va vn vc).ownBlock ≠ some w.heap.size := fun e => by have := (hO.lt _ e).1; rw [World.size_alloc] at this; omega
      refine ⟨⟨.slice va vn vc, ⟨?_, ?_, by decide, HT.out.hd, HT.out.ln, HT.out.sz⟩, fun g e => by have := (hO.lt _ e).1; rw [World.size_alloc] at this; omega⟩, ?_, ?_⟩
      · rw [allocOld (by simp; omega), setOf_ hb1]; rfl
      · have := (hO.kept (Lib.grownBy_setCell W1 w.heap.size 0 (.slice va vn vc)) (.inr hty)).alloc (.cells #[.pointer none, .slice none 0 0] 71)
        exact ⟨this.1, this.2.imp id (fun ⟨g, c, cu, e1, e2, r⟩ => ⟨g, c, cu, e1, Nat.zero_le _, r⟩)⟩
      · exact .inl ⟨Nat.le_refl _, .slice none 0 0, allocAt _ (by simp), World.ownsRow_nil _ _ _ _, by simp [Value.ownBlock]⟩
      · exact ((((Below.refl _ w).alloc (Nat.le_refl _) _).trans (hB.mono (by simp))).setCell (p := ⟨w.heap.size, 0, none⟩) (Nat.le_refl _) _).alloc (by simp; omega) _
    have hs2 : W1.heap.size ≤ ((W1.setCell ⟨w.heap.size, 0, none⟩ (.slice va vn vc)).alloc (.cells #[.pointer none, .slice none 0 0] 71)).heap.size := by simp
    have e0 : W1.cell? ⟨w.heap.size, 0, none⟩ = some (.slice la ln lc) := cellOf hb1 0
    have f0 : W1.frozen? ⟨w.heap.size, 0, none⟩ = false := frozenOf hb1 0
    have HS0 := Lib.hid hS0
    have HS1 := Lib.hid hs1
    clear hO hB hb1 hS0 hs1 CL
    obtain ⟨ba, bo, hsv, hbo⟩ : ∃ (a : Option Addr) (c : Nat), sv = .slice a l.length c ∧ l.length ≤ c := by
      obtain ⟨a, c, e, hc, _⟩ := HSL.out.form
      exact ⟨a, c, e, hc⟩
    subst hsv
    go_wp2
    generalize (W1.setCell ⟨w.heap.size, 0, none⟩ (.slice va vn vc)).alloc (.cells #[.pointer none, .slice none 0 0] 71) = W2 at *
    obtain ⟨bb, hbb⟩ : ∃ bb, W1.heap.size = bb := ⟨_, rfl⟩
    rw [hbb] at HS0 HS1 hs2 ⊢
    have WS := Lib.hid (fun bs s W h h1 h2 => WriteStr_any bb bb bs s W h h1 h2)
    go_loopw [33] (fun iv wr => ∃ k : Nat, iv = .int .i64 k ∧ k ≤ l.length ∧ ApS w w.heap.size bb t (l.take k) wr ∧ bb ≤ wr.heap.size) (fun iv _ => l.length - (intOf iv).toNat)
    case atStart => exact ⟨0, rfl, Nat.zero_le _, HS0.out, hs2⟩
    case round =>
      obtain ⟨k, rfl, hk, hS, hbw⟩ := hrel
      by_cases hlt : k < l.length
      · have hlti : (k : Int) < (l.length : Int) := by omega
        obtain ⟨lb, lo, hle, hlb, hlc⟩ : ∃ b off, ba = some ⟨b, off, none⟩ ∧ b < w.heap.size ∧ ∀ j x, l[j]? = some x → w.cell? ⟨b, off + j, none⟩ = some (.string x) := by
          obtain ⟨a', c', e, _, hf⟩ := HSL.out.form
          injection e with e1 e2 e3
          obtain ⟨b, off, ea, hb, hc⟩ := hf (by omega)
          exact ⟨b, off, e1.trans ea, hb, hc⟩
        subst hle
        have cx : wr.cell? ⟨lb, lo + k, none⟩ = some (.string l[k]) := (hS.bel.cell (p := ⟨lb, lo + k, none⟩) hlb).trans (hlc k _ (List.getElem?_eq_getElem hlt))
        have hr := HSM.out l[k] (List.getElem_mem hlt)
        obtain ⟨lv2, hT2, hl2⟩ := hS.tape
        have hsz := growAll_size (l.take k) t
        have hrc := growAll_recs (l.take k) t
        have hol := outE_le (l.take k) t 65536 (fun r hr => HSM.out r (List.mem_of_mem_take hr))
        have hlen : (l.take k).length = k := by rw [List.length_take]; omega
        have hm : k * (65536 + 43) ≤ 100 * 65579 := Nat.mul_le_mul (by omega) (by omega)
        have hjl := HH.out.len
        have hjf := HH.out.fit
        have AD := Lib.hid (add_any2 hT2 l[k] hr (by rw [hrc, List.length_append, hlen]; omega) (by rw [hsz]; rw [hlen] at hol; omega) (HR.out.below hS.bel) (by omega))
        have HX := Lib.hid hS
        have HT2 := Lib.hid hT2
        have HL2 := Lib.hid hl2
        have SN := Lib.hid (show l.take (k + 1) = l.take k ++ [l[k]] by rw [List.take_succ_eq_append_getElem hlt])
        clear hS hT2 hl2 hlc hsz hrc hol hm
        generalize l[k] = r at *
        go_wp2_with fail
        refine AD.out.mono ?_
        rintro e W3 ⟨rfl, lv3, hT3, hU3, hw3⟩
        have hnb : lv2.ownBlock ≠ some bb := fun e => by
          rcases HT2.out.row.2 with ⟨e1, _⟩ | ⟨g, cap, cur, e1, _, hg, _⟩
          · rw [e1] at e; cases e
          · rw [e1] at e
            injection e with e
            subst e
            rcases HX.out.bld with hb | hb
            · obtain ⟨_, v, hb, _⟩ := hb; exact absurd (hg.symm.trans hb) (by simp)
            · obtain ⟨_, v, hb, _⟩ := hb; exact absurd (hg.symm.trans hb) (by simp)
        have hbt : w.heap.size ≠ bb := by have := HS1.out; omega
        have hB3 := bld_upd HX.out.bld hU3 (fun e => e.elim (fun e => hbt e.symm) hnb) (fun g cs fz hg e => by
          rcases e with rfl | e
          · exact absurd (hg.symm.trans HT2.out.cells) (by simp)
          · rcases HT2.out.row.2 with ⟨e1, _⟩ | ⟨g', cap, cur, e1, _, hg', _⟩
            · rw [e1] at e; cases e
            · rw [e1] at e
              injection e with e
              subst e
              exact absurd (hg.symm.trans hg') (by simp))
        have hnb3 : lv3.ownBlock ≠ some bb := fun e => by
          rcases hT3.row.2 with ⟨e1, _⟩ | ⟨g, cap, cur, e1, _, hg, _⟩
          · rw [e1] at e; cases e
          · rw [e1] at e
            injection e with e
            subst e
            rcases hB3 with hb | hb
            · obtain ⟨_, v, hb, _⟩ := hb; exact absurd (hg.symm.trans hb) (by simp)
            · obtain ⟨_, v, hb, _⟩ := hb; exact absurd (hg.symm.trans hb) (by simp)
        have hl3 : ∀ g, lv3.ownBlock = some g → w.heap.size ≤ g := fun g e => by
          rcases hw3 with h | ⟨g', h, h'⟩
          · exact HL2.out g (by rw [← h, e])
          · rw [h] at e; injection e with e; have := HX.out.bel.size; omega
        have hbl3 : Below w.heap.size w W3 := HX.out.bel.trans (Upd.below' hU3 HX.out.bel.size (fun i hi e => e.elim (fun e => by omega) (fun e => by have := HL2.out i e; omega)))
        have hsz3 : bb ≤ W3.heap.size := Nat.le_trans hbw hU3.size
        have hol := outE_le (l.take k) t 65536 (fun r hr => HSM.out r (List.mem_of_mem_take hr))
        have hrl := recE_le (growAll t (l.take k)).head r
        have hm : k * (65536 + 43) ≤ 100 * 65579 := Nat.mul_le_mul (by omega) (by omega)
        have HG : Hid ((growAll t (l.take (k + 1))) = ⟨(growAll t (l.take k)).recs ++ [r], chainB (growAll t (l.take k)).head r, (growAll t (l.take k)).size + (recE (growAll t (l.take k)).head r).size⟩) := Lib.hid (by rw [SN.out, growAll_snoc]; rfl)
        have HE : Hid (outE t (l.take (k + 1)) = outE t (l.take k) ++ recE (growAll t (l.take k)).head r) := Lib.hid (by rw [SN.out, outE_snoc])
        have WW := Lib.hid (WS.out _ (recE (growAll t (l.take k)).head r) W3 hB3 (by rw [Lib.byteCells_length, Array.length_toList]; have : (outE t (l.take k)).data.size = (outE t (l.take k)).size := rfl; rw [hlen] at hol; omega) hsz3)
        have HT3 := Lib.hid hT3
        have HN3 := Lib.hid hnb3
        have HL3 := Lib.hid hl3
        have HBL := Lib.hid hbl3
        have HBT := Lib.hid hbt
        clear hT3 hU3 hw3 hnb hbt hB3 hnb3 hl3 hbl3 hol hrl hm AD
        generalize recE (growAll t (l.take k)).head r = rb at *
        go_wp2_with fail
        refine WW.out.mono ?_
        rintro e W4 ⟨⟨v, rfl⟩, hB4, hb4, hk4⟩
        have hS4 : ApS w w.heap.size bb t (l.take (k + 1)) W4 := by
          refine ⟨⟨lv3, ?_, HL3.out⟩, .inr ?_, HBL.out.trans (hb4.mono (by have := HS1.out; omega))⟩
          · rw [HG.out]; exact HT3.out.others (by decide) hk4 HBT.out HN3.out
          · rw [HE.out]
            have e : (outE t (l.take k) ++ rb).data.toList = (outE t (l.take k)).data.toList ++ rb.data.toList := by simp
            rw [e, Lib.byteCells_append, ← Lib.strCells_eq rb]
            exact hB4
        have HS4 := Lib.hid hS4
        have hsz4 : bb ≤ W4.heap.size := Nat.le_trans hsz3 hb4.size
        clear hB4 hb4 hk4 hS4
        go_wp2
        go_roundw
        case rel => exact ⟨k + 1, by go_num, by omega, HS4.out, hsz4⟩
        case measure => simp [intOf]; omega
      · have hkl : k = l.length := by omega
        subst hkl
        rw [List.take_length] at hS
        have HX := Lib.hid hS
        have ST := Lib.hid (Tryz.Builder_String_any_k bb bb (outE t l).data.toList wr (Lib.IsBuilderF.of hS.bld) hbw)
        have hol := outE_le l t 65536 HSM.out
        have hm : l.length * (65536 + 43) ≤ 100 * 65579 := Nat.mul_le_mul (by omega) (by omega)
        have hos : (outE t l).size ≤ 7000000 := by omega
        have HES : Hid ((⟨(outE t l).data.toList.toArray⟩ : ByteArray) = outE t l) := Lib.hid rfl
        rw [HES.out] at ST
        clear hS hol hm WS
        go_wp2_with fail
        refine ST.out.mono ?_
        rintro e W5 ⟨rfl, _, hb5, hk5⟩
        have hB5 : Below w.heap.size w W5 := HX.out.bel.trans (hb5.mono (by have := HS1.out; omega))
        have hJ5 := HH.out.below hB5
        have RM := Lib.hid (Room_any (HT.out.below hB5) (HF.out.upd (Upd.of_below (S := fun _ => False) hB5) (fun _ _ f => f)))
        obtain ⟨lvc, hTc, hlc⟩ := HX.out.tape
        have hTc5 : TapeAt W5 w.heap.size 65 [] lvc (growAll t l) := hTc.others (by decide) hk5 (by have := HS1.out; omega) (fun e => by
          rcases hTc.row.2 with ⟨e1, _⟩ | ⟨g, cap, cur, e1, _, hg, _⟩
          · rw [e1] at e; cases e
          · rw [e1] at e
            injection e with e
            subst e
            rcases HX.out.bld with hb | hb
            · obtain ⟨_, v, hb, _⟩ := hb; exact absurd (hg.symm.trans hb) (by simp)
            · obtain ⟨_, v, hb, _⟩ := hb; exact absurd (hg.symm.trans hb) (by simp))
        have HB5 := Lib.hid hB5
        have HJ5 := Lib.hid hJ5
        have HTC := Lib.hid hTc5
        have HLC := Lib.hid hlc
        have hfit := HH.out.fit
        clear hb5 hk5 hB5 hJ5 hTc hTc5 hlc HX ST
        obtain ⟨S, hS⟩ : ∃ S, outE t l = S := ⟨_, rfl⟩
        have HSE := Lib.hid hS
        rw [hS] at hos ⊢
        clear hS HES
        by_cases hfull : (n : Int) - (t.size : Int) < (S.size : Int)
        · have HA : Hid (appJ n false t d l = (261, false, t, d)) := Lib.hid (by unfold appJ; rw [if_neg HLG.out, HSE.out, if_pos hfull])
          go_wp2_with (go_at_call 17; refine RM.out.mono ?_; rintro e W6 ⟨rfl, hB6⟩; have HB6 := Lib.hid hB6; clear hB6)
          go_ret
          rw [HA.out]
          exact ⟨rfl, G, HJ5.out.below HB6.out, Moves.of_below (HB5.out.trans (HB6.out.mono HB5.out.size))⟩
        · by_cases hl0 : l = []
          · have HA : Hid (appJ n false t d l = (0, false, t, d)) := Lib.hid (by unfold appJ; rw [if_neg HLG.out, HSE.out, if_neg hfull, if_pos hl0])
            have hSe : S = ⟨#[]⟩ := by rw [← HSE.out, hl0]; rfl
            subst hSe
            go_wp2_with (go_at_call 17; refine RM.out.mono ?_; rintro e W6 ⟨rfl, hB6⟩; have HB6 := Lib.hid hB6; clear hB6)
            go_ret
            rw [HA.out]
            exact ⟨rfl, G, HJ5.out.below HB6.out, Moves.of_below (HB5.out.trans (HB6.out.mono HB5.out.size))⟩
          · have h33 : 33 ≤ S.size := by rw [← HSE.out]; exact outE_pos t l hl0
            have hie : S.toList.isEmpty = false := by
              cases hx : S.toList.isEmpty with
              | false => rfl
              | true =>
                have h0 := List.isEmpty_iff.1 hx
                rw [ByteArray.toList_eq] at h0
                have : S.data.toList.length = S.size := by rw [Array.length_toList]; rfl
                rw [h0] at this
                simp at this; omega
            go_wp2_with (go_at_call 17; refine RM.out.mono ?_; rintro e W6 ⟨rfl, hB6⟩; have HB6 := Lib.hid hB6; clear hB6)
            have hB06 := HB5.out.trans (HB6.out.mono HB5.out.size)
            have HT6 := Lib.hid (HT.out.below hB06)
            have HF6 := Lib.hid (HF.out.upd (Upd.of_below (S := fun _ => False) hB06) (fun _ _ f => f))
            have HTC6 := Lib.hid (HTC.out.below HB6.out)
            have HB06 := Lib.hid hB06
            have j2 : W6.cell? ⟨jb, 2, none⟩ = some (.int .i64 (t.size : Int)) := cellOf HT6.out.cells 2
            have j3 : W6.cell? ⟨jb, 3, none⟩ = some (.pointer (some ⟨bd, 0, none⟩)) := cellOf HT6.out.cells 3
            have hmf : ∀ (fn : Fn) (first cap : Array Value) (w : World), (Instr.makeFunc fn first cap).run Tryz.prog w = .ok (.func fn first cap) w := fun _ _ _ _ => rfl
            have hs1n : 1 ≤ S.size := by omega
            have hs1i : (1 : Int) ≤ (S.size : Int) := by omega
            have hwr : IntKind.i64.wrap ((t.size : Int) + 1) = (t.size : Int) + 1 := by rw [IntKind.wrap_i64]; omega
            clear hB06 RM c4 k0 k1 k2
            go_region_held3 (fun w' => w'.cell? ⟨jb, 2, none⟩ = some (.int .i64 (t.size : Int)) ∧ w'.cell? ⟨jb, 3, none⟩ = some (.pointer (some ⟨bd, 0, none⟩)))
              (first | exact ⟨j2, j3⟩ | exact ⟨p2, p3⟩ | exact ⟨q2, q3⟩ | exact ⟨u2, u3⟩ | go_keep)
              (first
                | (go_at_call 32
                   refine (first4_at HF6.out HWa.out HWb.out j3 HJF.out (by omega) hs1n hpe).mono ?_
                   rintro e Wd ⟨c, rfl, hPd, hcd⟩
                   have u2 : Wd.cell? ⟨jb, 2, none⟩ = some (.int .i64 (t.size : Int)) := by
                     obtain ⟨F', _, _, hU⟩ := hPd
                     exact hU.cell j2 HJF.out
                   have u3 : Wd.cell? ⟨jb, 3, none⟩ = some (.pointer (some ⟨bd, 0, none⟩)) := by
                     obtain ⟨F', _, _, hU⟩ := hPd
                     exact hU.cell j3 HJF.out
                   have HPD := Lib.hid hPd
                   have HCD := Lib.hid hcd
                   clear hPd hcd)
                | (go_at_call 33
                   have hX := HWa
                   refine (writing_any jb _ _ _).mono ?_
                   rintro e Wb ⟨rfl, hWb⟩
                   have HWb := Lib.hid hWb
                   have q2 : Wb.cell? ⟨jb, 2, none⟩ = some (.int .i64 (t.size : Int)) := cell_keep3 hWb p2
                   have q3 : Wb.cell? ⟨jb, 3, none⟩ = some (.pointer (some ⟨bd, 0, none⟩)) := cell_keep3 hWb p3
                   clear hWb)
                | (go_at_call 33
                   refine (writing_any jb _ _ _).mono ?_
                   rintro e Wa ⟨rfl, hWa⟩
                   have HWa := Lib.hid hWa
                   have p2 : Wa.cell? ⟨jb, 2, none⟩ = some (.int .i64 (t.size : Int)) := cell_keep3 hWa j2
                   have p3 : Wa.cell? ⟨jb, 3, none⟩ = some (.pointer (some ⟨bd, 0, none⟩)) := cell_keep3 hWa j3
                   clear hWa)
                | fail)
            all_goals
              obtain ⟨FF, hDF, hFF, hUF⟩ := HPD.out
              have hTd : JAt Wd jb bd false (.slice la ln lc) t := HT6.out.kept fun k hk hf => hUF.block k hk (fun e => by
                rcases hf with rfl | hf
                · exact HJF.out e
                · exact HLN.out k hf e)
              have hCd : TapeAt Wd w.heap.size 65 [] lvc (growAll t l) := HTC6.out.kept fun k hk hf => hUF.block k hk (fun e => by
                have := HF.out.lt e
                rcases hf with rfl | hf
                · omega
                · have := HLC.out k hf; omega)
              have HDF := Lib.hid hDF
              have HFF := Lib.hid hFF
              have HUF := Lib.hid hUF
              have HTD := Lib.hid hTd
              have HCdd := Lib.hid hCd
              have HCC := HCD.out
              clear hDF hFF hUF hTd hCd
              have hFF6 : ∀ k, FF k → F k ∨ w.heap.size ≤ k := fun k hk => (HFF.out k hk).imp id (fun e => Nat.le_trans HB06.out.size e)
              have hFw : ∀ k, F k → k < w.heap.size := fun k hk => HF.out.lt hk
              have hbn : Upd F w Wd := (Upd.of_below (S := F) HB06.out).trans HUF.out (fun _ _ h => h)
              have HFF6 := Lib.hid hFF6
              have HFW := Lib.hid hFw
              have HBN := Lib.hid hbn
              clear hFF6 hFw hbn
              rcases HCC with ⟨rfl, o0, o1, o3⟩ | ⟨rfl, hno⟩
              · have HA := Lib.hid (appJ_ok n t d l HLG.out (by rw [HSE.out]; omega) hl0 o0 (by rw [HSE.out]; exact o1) (by rw [HSE.out]; exact o3))
                obtain ⟨ca, cn, cc, rfl⟩ : ∃ ca cn cc, lvc = .slice ca cn cc := by
                  rcases HCdd.out.row.2 with ⟨e, _⟩ | ⟨g, cap, cur, e, _⟩
                  · exact ⟨_, _, _, e⟩
                  · exact ⟨_, _, _, e⟩
                have g0 : Wd.cell? ⟨w.heap.size, 0, none⟩ = some (.slice ca cn cc) := cellOf HCdd.out.cells 0
                have g1 : Wd.cell? ⟨w.heap.size, 1, none⟩ = some (.string (growAll t l).head) := cellOf HCdd.out.cells 1
                have g2 : Wd.cell? ⟨w.heap.size, 2, none⟩ = some (.int .i64 ((growAll t l).size : Int)) := cellOf HCdd.out.cells 2
                have i0 : Wd.cell? ⟨jb, 0, none⟩ = some (.slice la ln lc) := cellOf HTD.out.cells 0
                have i1 : Wd.cell? ⟨jb, 1, none⟩ = some (.string t.head) := cellOf HTD.out.cells 1
                have i2 : Wd.cell? ⟨jb, 2, none⟩ = some (.int .i64 (t.size : Int)) := cellOf HTD.out.cells 2
                have f0 : Wd.frozen? ⟨jb, 0, none⟩ = false := frozenOf HTD.out.cells 0
                have f1 : Wd.frozen? ⟨jb, 1, none⟩ = false := frozenOf HTD.out.cells 1
                have f2 : Wd.frozen? ⟨jb, 2, none⟩ = false := frozenOf HTD.out.cells 2
                go_wp2
                go_ret
                rw [HA.out]
                have hsz := growAll_size l t
                have hrc := growAll_recs l t
                have hge := outE_ge l t
                have hjl := HH.out.len
                rw [HSE.out] at hsz hge
                have hfr : ∀ g, (Value.slice ca cn cc).ownBlock = some g → ¬ FF g := fun g e hf => by
                  have h1 := HLC.out g e
                  have h2 := (HTC6.out.row.lt g e).2
                  rcases HFF.out g hf with h3 | h3
                  · have := HFW.out g h3; omega
                  · omega
                obtain ⟨G', g', m'⟩ := jg_ok (d' := syncD (dd3 d t.size (outE t l))) HH.out HTD.out HCdd.out (by have := HDF.out; rw [HSE.out]; simpa using this) HLC.out hfr HJF.out hjw HFF6.out HGG.out HBN.out (by rw [hrc, hsz, List.length_append]; omega) (by rw [hsz]; omega)
                exact ⟨rfl, G', g', m'⟩
              · have HA := Lib.hid (appJ_bad n t d l HLG.out (by rw [HSE.out]; omega) hl0 (by rw [HSE.out]; exact hno))
                have f4 : Wd.frozen? ⟨jb, 4, none⟩ = false := frozenOf HTD.out.cells 4
                have c4 : Wd.cell? ⟨jb, 4, none⟩ = some (.bool false) := cellOf HTD.out.cells 4
                go_wp2
                go_ret
                rw [HA.out]
                obtain ⟨G', g', m'⟩ := jg_bad (d' := ddB d t.size (outE t l)) HH.out HTD.out (by have := HDF.out; rw [if_neg (by decide)] at this; rw [HSE.out]; exact this) HLN.out (fun g e => (HT.out.row.lt g e).2) HJF.out hjw HFF6.out HGG.out HBN.out
                exact ⟨rfl, G', g', m'⟩
end Go.Proofs.YthlmgookaljgnaaGreatDoor
namespace Go.Proofs.YthlmgookaljgnaaGreatDoor
open Go.RowKit
set_option linter.unusedVariables false

theorem drop_cons_at {s : ByteArray} {q : Nat} {x : UInt8} {l : List UInt8} (h : s.data.toList.drop q = x :: l) : ∃ hq : q < s.size, s[q] = x ∧ s.data.toList.drop (q + 1) = l := by
  have hlen : s.data.toList.length = s.size := by rw [Array.length_toList]; rfl
  have hq : q < s.data.toList.length := by
    have : (s.data.toList.drop q).length = (x :: l).length := by rw [h]
    simp only [List.length_drop, List.length_cons] at this
    omega
  rw [List.drop_eq_getElem_cons hq] at h
  injection h with h1 h2
  exact ⟨by omega, h1, h2⟩
theorem size_drop (s : ByteArray) (q : Nat) : (s.data.toList.drop q).length = s.size - q := by
  rw [List.length_drop, Array.length_toList]; rfl
theorem ba_ext {a b : ByteArray} (h : a.data.toList = b.data.toList) : a = b := by
  cases a; cases b; simp only at h; rw [Array.toList_inj.1 h]
theorem extract_list (s : ByteArray) (a b : Nat) : (s.extract a b).data.toList = (s.data.toList.drop a).take (b - a) := by
  rw [ByteArray.data_extract, Array.toList_extract, List.extract_eq_take_drop]
theorem app_list (a b : ByteArray) : (a ++ b).data.toList = a.data.toList ++ b.data.toList := by simp
theorem u8_ofNat_toNat (n : Nat) (h : n < 256) : (UInt8.ofNat n).toNat = n := by
  have : (UInt8.ofNat n).toNat = n % 256 := by simp
  rw [this]; exact Nat.mod_eq_of_lt h

theorem decGo_enc (s : ByteArray) (p Z : Nat) (hZ : Z % 2 = 0) : ∀ (f i z0 z : Nat) (tl : List UInt8), z < 128 ^ (f + 1) → i + f ≤ 8 → (0 < i → 0 < z) → z0 + z * 128 ^ i = Z →
    s.data.toList.drop (p + i) = (encZ z).map UInt8.ofNat ++ tl → decGo s p (f + 1) i z0 = some (((Z / 2 : Nat) : Int), p + i + (encZ z).length) ∧ s.data.toList.drop (p + i + (encZ z).length) = tl := by
  have hN : numZ Z = ((Z / 2 : Nat) : Int) := by unfold numZ; rw [if_pos hZ]
  intro f
  induction f with
  | zero =>
    intro i z0 z tl hz hi h0 hs hd
    have hz' : z < 128 := by simpa using hz
    rw [encZ_lt z hz'] at hd ⊢
    obtain ⟨hq, hx, hd2⟩ := drop_cons_at hd
    have hx' : s[p + i].toNat = z := by rw [hx]; exact u8_ofNat_toNat z (by omega)
    refine ⟨?_, hd2⟩
    rw [decGo, dif_pos hq, hx', Nat.mod_eq_of_lt hz', hs, hN, if_neg (by omega), if_neg (by rintro (⟨a, b⟩ | a) <;> omega)]
    rfl
  | succ f ih =>
    intro i z0 z tl hz hi h0 hs hd
    by_cases hz' : z < 128
    · rw [encZ_lt z hz'] at hd ⊢
      obtain ⟨hq, hx, hd2⟩ := drop_cons_at hd
      have hx' : s[p + i].toNat = z := by rw [hx]; exact u8_ofNat_toNat z (by omega)
      refine ⟨?_, hd2⟩
      rw [decGo, dif_pos hq, hx', Nat.mod_eq_of_lt hz', hs, hN, if_neg (by omega), if_neg (by rintro (⟨a, b⟩ | a) <;> omega)]
      rfl
    · have hz9 : z < 128 ^ 9 := Nat.lt_of_lt_of_le hz (Nat.pow_le_pow_right (by decide) (by omega))
      rw [encZ_ge z hz' hz9] at hd ⊢
      obtain ⟨hq, hx, hd2⟩ := drop_cons_at hd
      have hx' : s[p + i].toNat = z % 128 + 128 := by rw [hx]; exact u8_ofNat_toNat _ (by omega)
      have hm : (z % 128 + 128) % 128 = z % 128 := by omega
      have e := ih (i + 1) (z0 + z % 128 * 128 ^ i) (z / 128) tl (by rw [Nat.pow_succ] at hz; omega) (by omega) (fun _ => by omega) (by
        rw [← hs, Nat.pow_succ, Nat.add_assoc]
        congr 1
        have : z = z % 128 + z / 128 * 128 := by omega
        calc z % 128 * 128 ^ i + z / 128 * (128 ^ i * 128) = (z % 128 + z / 128 * 128) * 128 ^ i := by rw [Nat.add_mul, Nat.mul_comm (128 ^ i) 128, Nat.mul_assoc]
          _ = z * 128 ^ i := by rw [← this]) hd2
      refine ⟨?_, ?_⟩
      · rw [decGo, dif_pos hq, hx', if_pos (by omega), hm, e.1, List.length_cons]
        simp only [Option.some.injEq, Prod.mk.injEq, true_and]; omega
      · rw [List.length_cons, ← e.2]; congr 1; omega

theorem intS_list (n : Nat) : (intS n).data.toList = (encZ (2 * n)).map UInt8.ofNat := rfl
theorem intS_len (n : Nat) : (intS n).size = (encZ (2 * n)).length := by
  show ((encZ (2 * n)).map UInt8.ofNat).toArray.size = _
  rw [List.size_toArray, List.length_map]
theorem decI_enc (s : ByteArray) (p n : Nat) (tl : List UInt8) (hn : n ≤ 1000000000) (h : s.data.toList.drop p = (intS n).data.toList ++ tl) :
    decI s p = some ((n : Int), p + (intS n).size) ∧ s.data.toList.drop (p + (intS n).size) = tl := by
  have e := decGo_enc s p (2 * n) (by omega) 8 0 0 (2 * n) tl (Nat.lt_of_lt_of_le (show 2 * n < 128 ^ 5 by omega) (Nat.pow_le_pow_right (by decide) (by decide))) (by omega) (fun h => by omega) (by simp) (by rw [Nat.add_zero, h, intS_list])
  rw [← intS_len] at e
  refine ⟨?_, e.2⟩
  rw [decI, e.1, show 2 * n / 2 = n by omega, Nat.add_zero]
theorem decS_enc (s : ByteArray) (p : Nat) (r : ByteArray) (tl : List UInt8) (hr : r.size ≤ 65536) (h : s.data.toList.drop p = (putS r).data.toList ++ tl) :
    decS s p = some (r, p + (putS r).size) ∧ s.data.toList.drop (p + (putS r).size) = tl := by
  rw [putS, app_list, List.append_assoc] at h
  obtain ⟨h1, h2⟩ := decI_enc s p r.size _ (by omega) h
  have hl : r.data.toList.length = r.size := by rw [Array.length_toList]; rfl
  have hsz : s.size - (p + (intS r.size).size) = r.size + tl.length := by
    rw [← size_drop, h2, List.length_append, hl]
  have hps : p + (putS r).size = p + (intS r.size).size + r.size := by rw [putS, ByteArray.size_append]; omega
  have hle : p + (intS r.size).size ≤ s.size := by
    by_cases h0 : r.size + tl.length = 0
    · by_cases hp : p + (intS r.size).size ≤ s.size
      · exact hp
      · exact absurd ((decGo_bounds s p 9 0 0 _ (by omega) (by decide) h1).2.2.1) hp
    · omega
  refine ⟨?_, ?_⟩
  · rw [decS, h1]
    simp only
    rw [if_neg (by omega), hps]
    simp only [Int.toNat_natCast, Option.some.injEq, Prod.mk.injEq, and_true]
    apply ba_ext
    rw [extract_list, h2, Nat.add_sub_cancel_left, ← hl, List.take_left]
  · rw [hps, ← List.drop_drop, h2, ← hl, List.drop_left]

theorem loadP_step (s : ByteArray) (f : Nat) (t : TV) (r : ByteArray) (tl : List UInt8) (hr : r.size ≤ 65536) (h : s.data.toList.drop t.size = (recE t.head r).data.toList ++ tl) :
    loadP s (f + 1) t = loadP s f (growT t r) ∧ s.data.toList.drop (growT t r).size = tl := by
  have hl : (recE t.head r).data.toList.length = (recE t.head r).size := by rw [Array.length_toList]; rfl
  have h33 := recE_size t.head r
  have h' := h
  rw [recE, app_list, app_list, List.append_assoc, List.append_assoc] at h'
  obtain ⟨hq, hx, hd⟩ := drop_cons_at (x := 1) h'
  obtain ⟨e1, e2⟩ := decS_enc s (t.size + 1) r _ hr hd
  have hsz : (recE t.head r).size = 1 + (putS r).size + 32 := by
    rw [recE, ByteArray.size_append, ByteArray.size_append, chainB, sumB_size]; rfl
  have hs := size_drop s t.size
  rw [h, List.length_append, hl] at hs
  have he : t.size + 1 + (putS r).size + 32 = t.size + (recE t.head r).size := by omega
  refine ⟨?_, ?_⟩
  · rw [loadP, dif_pos hq, hx, if_neg (by decide), if_pos rfl, e1]
    simp only
    rw [if_pos]
    · rfl
    · refine ⟨by omega, ?_⟩
      apply ba_ext
      rw [extract_list, h, he, Nat.add_sub_cancel_left, ← hl, List.take_left]
  · show s.data.toList.drop (t.size + (recE t.head r).size) = tl
    rw [← List.drop_drop, h, ← hl, List.drop_left]
theorem loadP_stop (s : ByteArray) (f : Nat) (t : TV) (h : s.data.toList.drop t.size = [] ∨ (s.data.toList.drop t.size).head? = some 0) : loadP s f t = some t := by
  cases f with
  | zero => rfl
  | succ f =>
    rw [loadP]
    by_cases hq : t.size < s.size
    · rw [dif_pos hq]
      have hd := List.drop_eq_getElem_cons (l := s.data.toList) (i := t.size) (by rw [Array.length_toList]; exact hq)
      rcases h with h | h
      · rw [hd] at h; cases h
      · rw [hd] at h
        injection h with h
        exact if_pos h
    · rw [dif_neg hq]
theorem loadP_app (s : ByteArray) : ∀ (l : List ByteArray) (t : TV) (f : Nat) (tl : List UInt8), (∀ r ∈ l, r.size ≤ 65536) → l.length ≤ f → s.data.toList.drop t.size = (outE t l).data.toList ++ tl → (tl = [] ∨ tl.head? = some 0) →
    loadP s f t = some (growAll t l)
  | [], t, f, tl, _, _, h, ht => by
    have h : s.data.toList.drop t.size = tl := h
    exact loadP_stop s f t (by rw [h]; exact ht)
  | r :: l, t, f, tl, hr, hf, h, ht => by
    cases f with
    | zero => simp at hf
    | succ f =>
      rw [outE, app_list, List.append_assoc] at h
      obtain ⟨e1, e2⟩ := loadP_step s f t r _ (hr r (by simp)) h
      rw [e1]
      exact loadP_app s l (growT t r) f tl (fun r' hr' => hr r' (by simp [hr'])) (by simp at hf; omega) e2 ht
end Go.Proofs.YthlmgookaljgnaaGreatDoor
namespace Go.Proofs.YthlmgookaljgnaaGreatDoor
open Go.RowKit
set_option linter.unusedVariables false

theorem outE_append (a : List ByteArray) : ∀ (t : TV) (b : List ByteArray), outE t (a ++ b) = outE t a ++ outE (growAll t a) b := by
  induction a with
  | nil => intro t b; show outE t b = ByteArray.empty ++ outE t b; rw [ByteArray.empty_append]
  | cons x a ih => intro t b; rw [List.cons_append, outE, outE, ih, ByteArray.append_assoc]; rfl
theorem growAll_append (t : TV) (a b : List ByteArray) : growAll t (a ++ b) = growAll (growAll t a) b := by simp [growAll]
/-- how many bytes a group takes -/
def needOf (l : List ByteArray) : Nat := (l.map fun r => 33 + (putS r).size).sum
theorem recE_len (h r : ByteArray) : (recE h r).size = 33 + (putS r).size := by
  rw [recE, ByteArray.size_append, ByteArray.size_append, chainB, sumB_size]
  have : (⟨#[1]⟩ : ByteArray).size = 1 := rfl
  omega
theorem outE_len (l : List ByteArray) : ∀ t, (outE t l).size = needOf l := by
  induction l with
  | nil => intro t; rfl
  | cons x l ih => intro t; rw [outE, ByteArray.size_append, ih, recE_len]; simp [needOf]
theorem needOf_append (a b : List ByteArray) : needOf (a ++ b) = needOf a + needOf b := by simp [needOf]
theorem growAll_len (l : List ByteArray) : (growAll tv0 l).size = needOf l := by rw [growAll_size, outE_len]; show 0 + _ = _; omega
theorem growAll_recs0 (l : List ByteArray) : (growAll tv0 l).recs = l := by rw [growAll_recs]; rfl

/-- the journal's tape, and what is on its disk -/
structure JInv (n : Nat) (d : DV) (l : List ByteArray) : Prop where
  vi : d.vi = (outE tv0 l).data.toList ++ List.replicate (n - needOf l) 0
  fit : needOf l ≤ n
  small : ∀ r ∈ l, r.size ≤ 65536

theorem ba_len (b : ByteArray) : b.data.toList.length = b.size := by rw [Array.length_toList]; rfl
theorem JInv.len {n : Nat} {d : DV} {l : List ByteArray} (h : JInv n d l) : d.vi.length = n := by
  have := h.fit
  rw [h.vi, List.length_append, ba_len, outE_len, List.length_replicate]; omega
theorem JInv.new (n : Nat) : JInv n (newD n) [] := ⟨by show List.replicate n 0 = [] ++ _; simp [needOf], Nat.zero_le _, by simp⟩
theorem needOf_length (l : List ByteArray) : l.length * 33 ≤ needOf l := by
  induction l with
  | nil => exact Nat.zero_le _
  | cons x l ih => simp only [needOf, List.map_cons, List.sum_cons, List.length_cons] at *; omega
theorem JInv.load {n : Nat} {d : DV} {l : List ByteArray} (h : JInv n d l) : loadP (diskB d) (n + 1) tv0 = some (growAll tv0 l) := by
  have := needOf_length l
  have := h.fit
  refine loadP_app (diskB d) l tv0 (n + 1) (List.replicate (n - needOf l) 0) h.small (by omega) ?_ ?_
  · show d.vi.drop 0 = _
    rw [List.drop_zero]; exact h.vi
  · by_cases h0 : n - needOf l = 0
    · rw [h0]; exact .inl rfl
    · obtain ⟨m, hm⟩ : ∃ m, n - needOf l = m + 1 := ⟨n - needOf l - 1, by omega⟩
      rw [hm]; exact .inr rfl
theorem JInv.zeros {n : Nat} {d : DV} {l : List ByteArray} (h : JInv n d l) : ∀ x ∈ d.vi.drop (growAll tv0 l).size, x = 0 := by
  intro x hx
  rw [growAll_len, h.vi, List.drop_append, ba_len, outE_len, Nat.sub_self, List.drop_zero] at hx
  rw [List.drop_of_length_le (by rw [ba_len, outE_len]; exact Nat.le_refl _)] at hx
  simpa using (List.mem_replicate.1 hx).2

/-- the two writes of a group give its bytes -/
theorem splice_two (P o Z : List UInt8) (k : Nat) (x : UInt8) (h : o = x :: o.tail) (hk : o.length ≤ k) (hZ : Z = List.replicate k 0) :
    splice (splice (P ++ Z) (P.length + 1) o.tail) P.length [x] = P ++ o ++ List.replicate (k - o.length) 0 := by
  subst hZ
  obtain ⟨y, o', rfl⟩ : ∃ y o', o = y :: o' := by rw [h]; exact ⟨_, _, rfl⟩
  simp only [List.tail_cons, List.cons.injEq, and_true, List.length_cons] at h hk
  subst h
  obtain ⟨k, rfl⟩ : ∃ k', k = k' + 1 := ⟨k - 1, by omega⟩
  have e1 : splice (P ++ List.replicate (k + 1) 0) (P.length + 1) o' = P ++ (0 :: (o' ++ List.replicate (k - o'.length) 0)) := by
    unfold splice
    rw [List.take_append, List.take_of_length_le (by omega), show P.length + 1 - P.length = 1 by omega, List.drop_append, List.drop_of_length_le (by omega), show P.length + 1 + o'.length - P.length = o'.length + 1 by omega]
    simp [List.replicate_succ]
  rw [List.tail_cons, e1]
  unfold splice
  rw [List.take_append, List.take_of_length_le (by omega), Nat.sub_self, List.take_zero, List.append_nil, List.length_singleton, List.drop_append, List.drop_of_length_le (by omega), show P.length + 1 - P.length = 1 by omega]
  simp
theorem outE_head (t : TV) (l : List ByteArray) (h : l ≠ []) : ∃ o, (outE t l).data.toList = 1 :: o := by
  cases l with
  | nil => exact absurd rfl h
  | cons x l => rw [outE, app_list, recE, app_list, app_list]; exact ⟨_, rfl⟩
theorem extract_tail (s : ByteArray) : (s.extract 1 s.size).data.toList = s.data.toList.tail := by
  rw [extract_list, List.drop_one, List.take_of_length_le]
  rw [List.length_tail, ba_len]; exact Nat.le_refl _
theorem extract_head1 (s : ByteArray) (x : UInt8) (o : List UInt8) (h : s.data.toList = x :: o) : (s.extract 0 1).data.toList = [x] := by
  rw [extract_list, h]; rfl

/-- the disk when a group has been appended -/
theorem JInv.grown {n : Nat} {d : DV} {l g : List ByteArray} (h : JInv n d l) (hg : g ≠ []) (hs : ∀ r ∈ g, r.size ≤ 65536) (hf : needOf l + needOf g ≤ n) :
    (syncD (writeD (syncD (writeD d ((growAll tv0 l).size + 1) ((outE (growAll tv0 l) g).extract 1 (outE (growAll tv0 l) g).size))) (growAll tv0 l).size ((outE (growAll tv0 l) g).extract 0 1))).vi = (outE tv0 (l ++ g)).data.toList ++ List.replicate (n - needOf (l ++ g)) 0 := by
  obtain ⟨o, ho⟩ := outE_head (growAll tv0 l) g hg
  have hol : (1 :: o).length = needOf g := by rw [← ho, ba_len, outE_len]
  have hPl : (outE tv0 l).data.toList.length = needOf l := by rw [ba_len, outE_len]
  show splice (splice d.vi _ _) _ _ = _
  rw [extract_tail, extract_head1 _ _ _ ho, growAll_len, h.vi, ← hPl]
  rw [splice_two _ (outE (growAll tv0 l) g).data.toList _ (n - (outE tv0 l).data.toList.length) 1 (by rw [ho]; rfl) (by rw [ho, hol, hPl]; omega) rfl]
  rw [outE_append, app_list, needOf_append, ho, hol, hPl, Nat.sub_sub]
theorem JInv.append {n : Nat} {d : DV} {l g : List ByteArray} (h : JInv n d l) (hg : g ≠ []) (hs : ∀ r ∈ g, r.size ≤ 65536) (hf : needOf l + needOf g ≤ n) :
    JInv n (syncD (writeD (syncD (writeD d ((growAll tv0 l).size + 1) ((outE (growAll tv0 l) g).extract 1 (outE (growAll tv0 l) g).size))) (growAll tv0 l).size ((outE (growAll tv0 l) g).extract 0 1))) (l ++ g) :=
  ⟨h.grown hg hs hf, by rw [needOf_append]; exact hf, fun r hr => by
    rcases List.mem_append.1 hr with h' | h'
    · exact h.small r h'
    · exact hs r h'⟩

/-- a disk that has power for ever, and no pending writes -/
structure Calm (d : DV) : Prop where
  off : d.off = false
  left : d.left = 0
  pe : d.pe = []

/-- a group that fits -/
theorem appJ_fits {n : Nat} {d : DV} {l g : List ByteArray} (h : JInv n d l) (hc : Calm d) (hs : ∀ r ∈ g, r.size ≤ 65536) (hf : needOf l + needOf g ≤ n) :
    ∃ d', appJ n false (growAll tv0 l) d g = (0, false, growAll tv0 (l ++ g), d') ∧ JInv n d' (l ++ g) ∧ Calm d' := by
  have hany : ¬ (false = true ∨ g.any (fun r => decide (65536 < r.size)) = true) := by
    rintro (h | h)
    · cases h
    · obtain ⟨r, hr, hx⟩ := List.any_eq_true.1 h
      have := hs r hr
      simp only [decide_eq_true_eq] at hx
      omega
  have hroom : ¬ ((n : Int) - ((growAll tv0 l).size : Int) < ((outE (growAll tv0 l) g).size : Int)) := by rw [growAll_len, outE_len]; omega
  by_cases hg : g = []
  · subst hg
    exact ⟨d, by rw [appJ, if_neg hany, if_neg hroom, if_pos rfl, List.append_nil], by rw [List.append_nil]; exact h, hc⟩
  · have e1 : ∀ p s, (writeD d p s).off = false := fun p s => by show usedOff false d.left = false; rw [hc.left]; rfl
    have e2 : ∀ p s q r, (writeD (syncD (writeD d p s)) q r).off = false := fun p s q r => by show usedOff false (usedLeft d.left) = false; rw [hc.left]; rfl
    refine ⟨_, ?_, h.append hg hs hf, ?_⟩
    · rw [appJ, if_neg hany, if_neg hroom, if_neg hg, if_neg (by rw [hc.off]; simp), if_neg (by rw [e1]; simp), if_neg (by rw [e2]; simp), growAll_append]
    · refine ⟨?_, ?_, rfl⟩
      · exact e2 ((growAll tv0 l).size + 1) ((outE (growAll tv0 l) g).extract 1 (outE (growAll tv0 l) g).size) (growAll tv0 l).size ((outE (growAll tv0 l) g).extract 0 1)
      · show usedLeft (usedLeft d.left) = 0; rw [hc.left]; rfl
/-- a group that does not fit -/
theorem appJ_full {n : Nat} {d : DV} {l g : List ByteArray} (hs : ∀ r ∈ g, r.size ≤ 65536) (hf : ¬ needOf l + needOf g ≤ n) :
    appJ n false (growAll tv0 l) d g = (261, false, growAll tv0 l, d) := by
  have hany : ¬ (false = true ∨ g.any (fun r => decide (65536 < r.size)) = true) := by
    rintro (h | h)
    · cases h
    · obtain ⟨r, hr, hx⟩ := List.any_eq_true.1 h
      have := hs r hr
      simp only [decide_eq_true_eq] at hx
      omega
  rw [appJ, if_neg hany, if_pos (by rw [growAll_len, outE_len]; omega)]
theorem appJ_long {n : Nat} {br : Bool} {t : TV} {d : DV} {g : List ByteArray} (h : ∃ r ∈ g, 65536 < r.size) : appJ n br t d g = (260, br, t, d) := by
  obtain ⟨r, hr, hx⟩ := h
  exact if_pos (.inr (List.any_eq_true.2 ⟨r, hr, by simpa using hx⟩))
/-- an empty group -/
theorem appJ_nil {n : Nat} {t : TV} {d : DV} (h : t.size ≤ n) : appJ n false t d [] = (0, false, t, d) := by
  rw [appJ, if_neg (by simp), if_neg, if_pos rfl]
  show ¬ ((n : Int) - (t.size : Int) < ((0 : Nat) : Int))
  omega
/-- a disk without power -/
theorem appJ_off {n : Nat} {t : TV} {d : DV} {g : List ByteArray} (hs : ∀ r ∈ g, r.size ≤ 65536) (hf : t.size + needOf g ≤ n) (hg : g ≠ []) (ho : d.off = true) : appJ n false t d g = (251, true, t, d) := by
  have hany : ¬ (false = true ∨ g.any (fun r => decide (65536 < r.size)) = true) := by
    rintro (h | h)
    · cases h
    · obtain ⟨r, hr, hx⟩ := List.any_eq_true.1 h
      have := hs r hr
      simp only [decide_eq_true_eq] at hx
      omega
  rw [appJ, if_neg hany, if_neg (by rw [outE_len]; omega), if_neg hg, if_pos ho]
end Go.Proofs.YthlmgookaljgnaaGreatDoor
namespace Go.Proofs.YthlmgookaljgnaaGreatDoor
open Go.RowKit
set_option linter.unusedVariables false

def pickJ (c n : Int) : Int := (if c < 0 then -(c + 1) else c) % n
theorem pickJ_lo (c n : Int) (h : 0 < n) : 0 ≤ pickJ c n := Int.emod_nonneg _ (by omega)
theorem pickJ_hi (c n : Int) (h : 0 < n) : pickJ c n < n := Int.emod_lt_of_pos _ h

set_option maxHeartbeats 400000 in
theorem pickJ_any (c n : Int) (w : World) (h0 : 0 < n) (h1 : n ≤ 100000000) (hc : -9223372036854775808 ≤ c) (hc' : c ≤ 9223372036854775807) :
    Calls Tryz.prog 11 #[.int .i64 c, .int .i64 n] w fun e w' => e = .returned (.int .i64 (pickJ c n)) ∧ w = w' := by
  by_cases h : c < 0
  · go_enter Tryz.func11, Tryz.ntmps11
    go_wp2
    go_ret
    refine ⟨?_, rfl⟩
    simp only [pickJ, if_pos h]
    show Ending.returned (.int .i64 (-(c + 1).tmod n)) = _
    rw [← Int.neg_tmod, Int.tmod_eq_emod_of_nonneg (by omega)]
  · go_enter Tryz.func11, Tryz.ntmps11
    go_wp2
    go_ret
    refine ⟨?_, rfl⟩
    simp only [pickJ, if_neg (show ¬ c < 0 by omega)]
    rfl

def sizeJ (n : Int) : Nat := (1 + pickJ n 1500).toNat
theorem sizeJ_eq (n : Int) : ((sizeJ n : Nat) : Int) = 1 + pickJ n 1500 := by
  have := pickJ_lo n 1500 (by decide)
  unfold sizeJ; omega
theorem sizeJ_bounds (n : Int) : 1 ≤ sizeJ n ∧ sizeJ n ≤ 1500 := by
  have h1 := pickJ_lo n 1500 (by decide)
  have h2 := pickJ_hi n 1500 (by decide)
  unfold sizeJ; omega
theorem sizeJ_any (n : Int) (w : World) (hc : -9223372036854775808 ≤ n) (hc' : n ≤ 9223372036854775807) :
    Calls Tryz.prog 12 #[.int .i64 n] w fun e w' => e = .returned (.int .i64 (sizeJ n : Int)) ∧ w = w' := by
  have PK := Lib.hid (pickJ_any n 1500 w (by decide) (by decide) hc hc')
  have h1 := pickJ_lo n 1500 (by decide)
  have h2 := pickJ_hi n 1500 (by decide)
  have HE := Lib.hid (sizeJ_eq n)
  generalize pickJ n 1500 = z at *
  go_enter Tryz.func12, Tryz.ntmps12
  go_wp2_with (go_at_call 11; refine PK.out.mono ?_; rintro e w' ⟨rfl, rfl⟩)
  go_ret
  exact ⟨by rw [HE.out]; rfl, rfl⟩
end Go.Proofs.YthlmgookaljgnaaGreatDoor
namespace Go.Proofs.YthlmgookaljgnaaGreatDoor
open Go.RowKit Go.Shelf
set_option linter.unusedVariables false
set_option linter.unusedSimpArgs false

section
variable {w : World} {jb bd n : Nat} {br : Bool} {t : TV} {d : DV} {G : Nat → Prop}

theorem JG.disk (h : JG w jb bd n br t d G) : ∃ F, DiskF w bd n d F ∧ (∀ k, F k → G k) ∧
    ∀ {w' : World} {d' : DV} {F' : Nat → Prop}, DiskF w' bd n d' F' → Moves F F' w w' → ∃ G', JG w' jb bd n br t d' G' ∧ Moves G G' w w' := by
  obtain ⟨lv, F, h1, h2, h3, h4, h5⟩ := h.parts
  refine ⟨F, h2, fun k hk => (h5 k).2 (.inl hk), fun {w' d' F'} hD hm => ?_⟩
  have hjl := ltOf h1.cells
  have hjn : ¬ F' jb := fun e => (hm.2 jb e).elim h4 (by omega)
  have hln : ∀ g, lv.ownBlock = some g → ¬ F' g := fun g e hf => (hm.2 g hf).elim (h3 g e) (fun h => by have := (h1.row.lt g e).2; omega)
  refine ⟨fun k => F' k ∨ k = jb ∨ lv.ownBlock = some k, ⟨⟨lv, F', h1.kept fun k hk hf => hm.1.block k hk (fun e => ?_), hD, hln, hjn, fun _ => Iff.rfl⟩, h.len, h.fit⟩, hm.1.mono (fun k _ hk => (h5 k).2 (.inl hk)), fun k hk => ?_⟩
  · rcases hf with rfl | hf
    · exact h4 e
    · exact h3 k hf e
  · rcases hk with hk | hk
    · exact (hm.2 k hk).imp (fun e => (h5 k).2 (.inl e)) id
    · exact .inl ((h5 k).2 (.inr hk))

theorem RoomG (h : JG w jb bd n br t d G) : Calls Tryz.prog 17 #[.pointer (some ⟨jb, 0, none⟩)] w fun e w' => e = .returned (.int .i64 ((n - t.size : Nat) : Int)) ∧ Below w.heap.size w w' := by
  obtain ⟨lv, F, h1, h2, h3, h4, h5⟩ := h.parts
  have := h.fit
  refine (Room_any h1 h2).mono ?_
  rintro e w' ⟨rfl, hB⟩
  exact ⟨by rw [show (n : Int) - (t.size : Int) = ((n - t.size : Nat) : Int) by omega], hB⟩
theorem RecordsG (h : JG w jb bd n br t d G) : Calls Tryz.prog 16 #[.pointer (some ⟨jb, 0, none⟩)] w fun e w' => ∃ v, e = .returned v ∧ w'.ownsRow w.heap.size 9 1 v t.recs.length (strV t.recs) ∧ Below w.heap.size w w' := by
  obtain ⟨lv, F, h1, h2, h3, h4, h5⟩ := h.parts
  exact Records_any h1
end

/-- a row of strings that was made -/
theorem SL_kept {S : Nat → Prop} {w w' : World} {B : Nat} {v : Value} {l : List ByteArray} (h : w.ownsRow B 9 1 v l.length (strV l)) (hU : Upd S w w') (hS : ∀ k, v.ownBlock = some k → ¬ S k) : w'.ownsRow B 9 1 v l.length (strV l) := by
  refine ⟨h.1, ?_⟩
  rcases h.2 with e | ⟨g, cap, cur, e, hb, hg, r⟩
  · exact .inl e
  · exact .inr ⟨g, cap, cur, e, hb, (hU.block g (ltOf hg) (hS g (by rw [e]; rfl))).trans hg, r⟩

theorem OpenG {w : World} {bd n : Nat} {d : DV} {F : Nat → Prop} (h : DiskF w bd n d F) (ho : d.off = false) (hn : n ≤ 900000) (hR : RoundLaid w) (a : Addr) (hD : DamLaid a w) (t' : TV) (hP : loadP (diskB d) (n + 1) tv0 = some t') (hz : ∀ x ∈ d.vi.drop t'.size, x = 0) :
    Calls Tryz.prog 24 #[.pointer (some ⟨bd, 0, none⟩)] w fun e w' => ∃ jb G', e = .returned (.tuple #[.pointer (some ⟨jb, 0, none⟩), .int .i64 0]) ∧ JG w' jb bd n false t' d G' ∧ (∀ k, F k → G' k) ∧ (∀ k, G' k → F k ∨ w.heap.size ≤ k) ∧ Below w.heap.size w w' := by
  refine (Open_same h ho hn hR a hD t' hP hz).mono ?_
  rintro e w' ⟨jb, lv, rfl, hj, hT, hl, hB, h1, h2⟩
  refine ⟨jb, fun k => F k ∨ k = jb ∨ lv.ownBlock = some k, rfl, ⟨⟨lv, F, hT, h.upd (Upd.of_below (S := fun _ => False) hB) (fun _ _ f => f), fun g e hf => ?_, fun hf => ?_, fun _ => Iff.rfl⟩, h2, h1⟩, fun k hk => .inl hk, ?_, hB⟩
  · have := h.lt hf; have := hl g e; omega
  · have := h.lt hf; omega
  · rintro k (hk | rfl | hk)
    · exact .inl hk
    · exact .inr hj
    · exact .inr (hl k hk)
/-- opening a disk that is in order -/
theorem OpenI {w : World} {bd n : Nat} {d : DV} {F : Nat → Prop} {l : List ByteArray} (h : DiskF w bd n d F) (ho : d.off = false) (hn : n ≤ 900000) (hR : RoundLaid w) (a : Addr) (hD : DamLaid a w) (hI : JInv n d l) :
    Calls Tryz.prog 24 #[.pointer (some ⟨bd, 0, none⟩)] w fun e w' => ∃ jb G', e = .returned (.tuple #[.pointer (some ⟨jb, 0, none⟩), .int .i64 0]) ∧ JG w' jb bd n false (growAll tv0 l) d G' ∧ (∀ k, F k → G' k) ∧ (∀ k, G' k → F k ∨ w.heap.size ≤ k) ∧ Below w.heap.size w w' :=
  OpenG h ho hn hR a hD _ hI.load hI.zeros

/-- content(d) -/
theorem content_any {w : World} {bd n : Nat} {d : DV} {F : Nat → Prop} (h : DiskF w bd n d F) (ho : d.off = false) :
    Calls Tryz.prog 19 #[.pointer (some ⟨bd, 0, none⟩)] w fun e w' => e = .returned (.string (diskB d)) ∧ w = w' := by
  have SZ := Lib.hid (sizeF h)
  have RD := Lib.hid (readF_all h ho)
  rw [show (⟨d.vi.toArray⟩ : ByteArray) = diskB d from rfl] at RD
  clear h ho
  generalize diskB d = s at *
  go_enter Tryz.func19, Tryz.ntmps19
  go_wp2_with (first
    | (go_at_call 43; refine SZ.out.mono ?_; rintro e w' ⟨rfl, rfl⟩)
    | (go_at_call 44; refine RD.out.mono ?_; rintro e w' ⟨rfl, rfl⟩))
  go_ret
  exact ⟨rfl, rfl⟩

theorem DiskF.unique {w : World} {bd n n' : Nat} {d d' : DV} {F F' : Nat → Prop} (h : DiskF w bd n d F) (h' : DiskF w bd n' d' F') : ∀ k, F k → F' k := by
  obtain ⟨bu, bv, pv, h1, h2⟩ := h
  obtain ⟨bu', bv', pv', h1', h2'⟩ := h'
  have e := h1.hd.symm.trans h1'.hd
  have eu : bu = bu' := by
    have := congrArg (fun o => match o with | some (Obj.cells cs _ _) => cs[2]? | _ => none) e
    simp at this; exact this.1
  have ev : bv = bv' := by
    have := congrArg (fun o => match o with | some (Obj.cells cs _ _) => cs[3]? | _ => none) e
    simp at this; exact this.1
  have ep : pv = pv' := by
    have := congrArg (fun o => match o with | some (Obj.cells cs _ _) => cs[4]? | _ => none) e
    simpa using this
  subst eu ev ep
  exact fun k hk => (h2' k).2 ((h2 k).1 hk)
theorem JG.moved {w w' : World} {jb bd n : Nat} {br : Bool} {t : TV} {d d' : DV} {G F F' : Nat → Prop} (h : JG w jb bd n br t d G) (hF : DiskF w bd n d F) (hD : DiskF w' bd n d' F') (hm : Moves F F' w w') : ∃ G', JG w' jb bd n br t d' G' ∧ Moves G G' w w' := by
  obtain ⟨F2, h2, _, hup⟩ := h.disk
  exact hup hD ⟨hm.1.mono (fun k _ hk => hF.unique h2 k hk), fun k hk => (hm.2 k hk).imp (hF.unique h2 k) id⟩

/-- a call of Append on a journal that is in order, with power -/
theorem AppendI_fits {w : World} {jb bd n : Nat} {d : DV} {G : Nat → Prop} {l g : List ByteArray} (h : JG w jb bd n false (growAll tv0 l) d G) (hI : JInv n d l) (hC : Calm d) (hn : n ≤ 800000) (hR : RoundLaid w) (sv : Value) (hsl : SL w sv g) (hl : g.length ≤ 100)
    (hs : ∀ r ∈ g, r.size ≤ 65536) (hN0 : 3 < w.heap.size) (hf : needOf l + needOf g ≤ n) :
    Calls Tryz.prog 7 #[.pointer (some ⟨jb, 0, none⟩), sv] w fun e w' => e = .returned (.int .i64 0) ∧ ∃ d' G', JG w' jb bd n false (growAll tv0 (l ++ g)) d' G' ∧ JInv n d' (l ++ g) ∧ Calm d' ∧ Moves G G' w w' := by
  obtain ⟨d', e, h1, h2⟩ := appJ_fits hI hC hs hf
  have := Append_any h hn hR sv g hsl hl (fun r hr => by have := hs r hr; omega) (by rw [hC.pe]; simp) hN0
  rw [e] at this
  exact this.mono fun e w' ⟨a, G', b, c⟩ => ⟨a, d', G', b, h1, h2, c⟩
theorem AppendI_full {w : World} {jb bd n : Nat} {d : DV} {G : Nat → Prop} {l g : List ByteArray} (h : JG w jb bd n false (growAll tv0 l) d G) (hpe : d.pe.length ≤ 100000) (hn : n ≤ 800000) (hR : RoundLaid w) (sv : Value) (hsl : SL w sv g) (hl : g.length ≤ 100)
    (hs : ∀ r ∈ g, r.size ≤ 65536) (hN0 : 3 < w.heap.size) (hf : ¬ needOf l + needOf g ≤ n) :
    Calls Tryz.prog 7 #[.pointer (some ⟨jb, 0, none⟩), sv] w fun e w' => e = .returned (.int .i64 261) ∧ ∃ G', JG w' jb bd n false (growAll tv0 l) d G' ∧ Moves G G' w w' := by
  have := Append_any h hn hR sv g hsl hl (fun r hr => by have := hs r hr; omega) hpe hN0
  rw [appJ_full hs hf] at this
  exact this

/-- a disk whose first byte is neither 0 nor 1 -/
theorem loadP_bad (s : ByteArray) (f : Nat) (x : UInt8) (tl : List UInt8) (h : s.data.toList = x :: tl) (h0 : x ≠ 0) (h1 : x ≠ 1) : loadP s (f + 1) tv0 = none := by
  obtain ⟨hq, hx, _⟩ := drop_cons_at (s := s) (q := 0) (x := x) (l := tl) (by rw [List.drop_zero]; exact h)
  rw [loadP]
  exact (dif_pos hq).trans ((if_neg (by show ¬ s[0] = 0; rw [hx]; exact h0)).trans (if_neg (by show ¬ s[0] = 1; rw [hx]; exact h1)))

/-- a law's journal: all its blocks were made since the law began -/
structure SG (w W : World) (jb bd n : Nat) (br : Bool) (t : TV) (d : DV) (G : Nat → Prop) : Prop where
  j : JG W jb bd n br t d G
  new : ∀ k, G k → w.heap.size ≤ k
  bel : Below w.heap.size w W

theorem SG.below {w W W' : World} {jb bd n : Nat} {br : Bool} {t : TV} {d : DV} {G : Nat → Prop} (h : SG w W jb bd n br t d G) (hB : Below W.heap.size W W') : SG w W' jb bd n br t d G :=
  ⟨h.j.below hB, h.new, h.bel.trans (hB.mono h.bel.size)⟩
theorem SG.alloc {w W : World} {jb bd n : Nat} {br : Bool} {t : TV} {d : DV} {G : Nat → Prop} (h : SG w W jb bd n br t d G) (o : Obj) : SG w (W.alloc o) jb bd n br t d G := h.below ((Below.refl _ _).alloc (Nat.le_refl _) _)
theorem SG.drew {w W : World} {jb bd n : Nat} {br : Bool} {t : TV} {d : DV} {G : Nat → Prop} (h : SG w W jb bd n br t d G) : SG w W.drew jb bd n br t d G := h.below (Below.refl _ _).drew
theorem SG.round {w W : World} {jb bd n : Nat} {br : Bool} {t : TV} {d : DV} {G : Nat → Prop} (h : SG w W jb bd n br t d G) (hR : RoundLaid w) : RoundLaid W := hR.below h.bel
theorem SG.dam {w W : World} {jb bd n : Nat} {br : Bool} {t : TV} {d : DV} {G : Nat → Prop} (h : SG w W jb bd n br t d G) {a : Addr} (hD : DamLaid a w) : DamLaid a W := hD.upd (Upd.of_below (S := fun _ => False) h.bel) (fun h => h)
theorem round_lt {w : World} (h : RoundLaid w) : 3 < w.heap.size := by
  obtain ⟨x, hx⟩ := h
  exact ltOf hx
theorem SG.moves {w W W' : World} {jb bd n : Nat} {br br' : Bool} {t t' : TV} {d d' : DV} {G G' : Nat → Prop} (h : SG w W jb bd n br t d G) (hj : JG W' jb bd n br' t' d' G') (hm : Moves G G' W W') : SG w W' jb bd n br' t' d' G' := by
  obtain ⟨h1, h2⟩ := hm.base h.new h.bel.size
  exact ⟨hj, h1, h.bel.trans h2⟩
/-- Append, whatever the journal -/
theorem AppendS {w W : World} {jb bd n : Nat} {br : Bool} {t : TV} {d : DV} {G : Nat → Prop} (h : SG w W jb bd n br t d G) (hR : RoundLaid w) (hn : n ≤ 800000) (sv : Value) (g : List ByteArray) (hsl : SL W sv g) (hl : g.length ≤ 100) (hs : ∀ r ∈ g, r.size ≤ 1000000) (hpe : d.pe.length ≤ 100000)
    {c : Int} {br' : Bool} {t' : TV} {d' : DV} (he : appJ n br t d g = (c, br', t', d')) :
    Calls Tryz.prog 7 #[.pointer (some ⟨jb, 0, none⟩), sv] W fun e w' => e = .returned (.int .i64 c) ∧ ∃ G', SG w w' jb bd n br' t' d' G' ∧ Moves G G' W w' := by
  have := Append_any h.j hn (h.round hR) sv g hsl hl hs hpe (round_lt (h.round hR))
  rw [he] at this
  exact this.mono fun e w' ⟨a, G', b, c⟩ => ⟨a, G', h.moves b c, c⟩
/-- Open of an ordered disk, the first time -/
theorem OpenS {w W : World} {bd n : Nat} {d : DV} {F : Nat → Prop} {l : List ByteArray} (h : DiskF W bd n d F) (hF : ∀ k, F k → w.heap.size ≤ k) (hB : Below w.heap.size w W) (ho : d.off = false) (hn : n ≤ 900000) (hR : RoundLaid w) (a : Addr) (hD : DamLaid a w) (hI : JInv n d l) :
    Calls Tryz.prog 24 #[.pointer (some ⟨bd, 0, none⟩)] W fun e w' => ∃ jb G', e = .returned (.tuple #[.pointer (some ⟨jb, 0, none⟩), .int .i64 0]) ∧ SG w w' jb bd n false (growAll tv0 l) d G' ∧ (∀ k, G' k → F k ∨ W.heap.size ≤ k) ∧ Below W.heap.size W w' := by
  refine (OpenI h ho hn (hR.below hB) a (hD.upd (Upd.of_below (S := fun _ => False) hB) (fun h => h)) hI).mono ?_
  rintro e w' ⟨jb, G', rfl, h1, h2, h3, h4⟩
  exact ⟨jb, G', rfl, ⟨h1, fun k hk => (h3 k hk).elim (hF k) (fun e => Nat.le_trans hB.size e), hB.trans (h4.mono hB.size)⟩, h3, h4⟩

theorem RecordsS {w W : World} {jb bd n : Nat} {br : Bool} {l : List ByteArray} {d : DV} {G : Nat → Prop} (h : SG w W jb bd n br (growAll tv0 l) d G) :
    Calls Tryz.prog 16 #[.pointer (some ⟨jb, 0, none⟩)] W fun e w' => ∃ A C, e = .returned (.slice A l.length C) ∧ w'.ownsRow W.heap.size 9 1 (.slice A l.length C) l.length (strV l) ∧ Below W.heap.size W w' := by
  refine (RecordsG h.j).mono ?_
  rintro e w' ⟨v, rfl, hO, hB⟩
  rw [growAll_recs0] at hO
  rcases hO.2 with ⟨e1, e0⟩ | ⟨g, c, cur, e1, _⟩
  · exact ⟨none, 0, by rw [e1, ← e0], by rw [e1] at hO; rw [← e0] at hO ⊢; exact hO, hB⟩
  · exact ⟨some ⟨g, 0, none⟩, c, by rw [e1], by rw [e1] at hO; exact hO, hB⟩
theorem RoomS {w W : World} {jb bd n : Nat} {br : Bool} {l : List ByteArray} {d : DV} {G : Nat → Prop} (h : SG w W jb bd n br (growAll tv0 l) d G) (m : Nat) (hm : n = needOf l + m) :
    Calls Tryz.prog 17 #[.pointer (some ⟨jb, 0, none⟩)] W fun e w' => e = .returned (.int .i64 (m : Int)) ∧ Below W.heap.size W w' := by
  refine (RoomG h.j).mono ?_
  rintro e w' ⟨rfl, hB⟩
  rw [growAll_len, show n - needOf l = m by omega]
  exact ⟨rfl, hB⟩
/-- Append of a group that was read -/
theorem SG.moved {w W W' : World} {jb bd n : Nat} {br : Bool} {t : TV} {d d' : DV} {G F F' : Nat → Prop} (h : SG w W jb bd n br t d G) (hF : DiskF W bd n d F) (hD : DiskF W' bd n d' F') (hm : Moves F F' W W') : ∃ G', SG w W' jb bd n br t d' G' ∧ Moves G G' W W' := by
  obtain ⟨G', a, b⟩ := h.j.moved hF hD hm
  exact ⟨G', h.moves a b, b⟩
theorem SG.disk {w W : World} {jb bd n : Nat} {br : Bool} {t : TV} {d : DV} {G : Nat → Prop} (h : SG w W jb bd n br t d G) : ∃ F, DiskF W bd n d F ∧ (∀ k, F k → G k) ∧ (∀ k, F k → w.heap.size ≤ k) := by
  obtain ⟨F, a, b, _⟩ := h.j.disk
  exact ⟨F, a, b, fun k hk => h.new k (b k hk)⟩

/-- a row of strings beside a journal -/
structure RowK (W : World) (v : Value) (l : List ByteArray) (G : Nat → Prop) : Prop where
  row : W.ownsRow 0 9 1 v l.length (strV l)
  ap : ∀ k, v.ownBlock = some k → ¬ G k
theorem RowK.new {W W' : World} {v : Value} {l : List ByteArray} {G : Nat → Prop} (h : W'.ownsRow W.heap.size 9 1 v l.length (strV l)) (hG : ∀ k, G k → k < W.heap.size) : RowK W' v l G :=
  ⟨⟨h.1, h.2.imp id (fun ⟨g, c, cu, e1, e2, r⟩ => ⟨g, c, cu, e1, Nat.zero_le _, r⟩)⟩, fun k e hk => by have := (h.lt k e).1; have := hG k hk; omega⟩
theorem RowK.moves {W W' : World} {v : Value} {l : List ByteArray} {G G' : Nat → Prop} (h : RowK W v l G) (hm : Moves G G' W W') : RowK W' v l G' :=
  ⟨SL_kept h.row hm.1 h.ap, fun k e hk => (hm.2 k hk).elim (h.ap k e) (fun h' => by have := (h.row.lt k e).2; omega)⟩
theorem RowK.below {W W' : World} {v : Value} {l : List ByteArray} {G : Nat → Prop} (h : RowK W v l G) (hB : Below W.heap.size W W') : RowK W' v l G :=
  ⟨SL_kept h.row (Upd.of_below (S := fun _ => False) hB) (fun _ _ f => f), h.ap⟩
theorem RowK.sl {W : World} {v : Value} {l : List ByteArray} {G : Nat → Prop} (h : RowK W v l G) : SL W v l := SL_own h.row
end Go.Proofs.YthlmgookaljgnaaGreatDoor
namespace Go.Proofs.YthlmgookaljgnaaGreatDoor
open Go.RowKit
set_option linter.unusedVariables false

def cut1h (s : ByteArray) : ByteArray := s.extract 0 (min s.size 100)
theorem cut1h_size (s : ByteArray) : (cut1h s).size ≤ 100 := by unfold cut1h; simp only [ByteArray.size_extract]; omega
def fewJ (l : List ByteArray) (n : Nat) : List ByteArray := (l.take n).map cut1h
theorem fewJ_snoc (l : List ByteArray) (k : Nat) (h : k < l.length) : fewJ l (k + 1) = fewJ l k ++ [cut1h l[k]] := by
  unfold fewJ; rw [List.take_succ_eq_append_getElem h, List.map_append]; rfl
theorem fewJ_length (l : List ByteArray) (n : Nat) : (fewJ l n).length = min n l.length := by simp [fewJ]
theorem fewJ_small (l : List ByteArray) (n : Nat) : ∀ s ∈ fewJ l n, s.size ≤ 100 := by
  intro s hs
  obtain ⟨x, _, rfl⟩ := List.mem_map.1 hs
  exact cut1h_size x

set_option maxHeartbeats 2000000 in
set_option maxRecDepth 100000 in
theorem fewJ_any (w : World) (sv : Value) (l : List ByteArray) (hsl : SL w sv l) (hlen : l.length ≤ 9223372036854775807) (hs : ∀ s ∈ l, s.size ≤ 9223372036854775807) :
    Calls Tryz.prog 8 #[sv] w fun e w' => ∃ v, e = .returned v ∧ w'.ownsRow w.heap.size 9 1 v (fewJ l 6).length (strV (fewJ l 6)) ∧ Below w.heap.size w w' := by
  obtain ⟨i9, hi9, hz9, hy9, hb9⟩ := info_parts Tryz.infoStr
  obtain ⟨a, cap, rfl, hcp, hne⟩ := hsl.form
  have HNE := Lib.hid hne
  have HS := Lib.hid hs
  clear hne hs hsl
  go_enter Tryz.func8, Tryz.ntmps8
  go_wp2
  go_loopw [3, 4] (fun ov iv wr => ∃ (k : Nat), iv = .int .i64 k ∧ k ≤ l.length ∧ k ≤ 6 ∧ wr.ownsRow w.heap.size 9 1 ov k (strV (fewJ l k)) ∧ Below w.heap.size w wr) (fun _ iv _ => l.length - (intOf iv).toNat)
  case atStart => exact ⟨0, rfl, Nat.zero_le _, Nat.zero_le _, World.ownsRow_nil _ _ _ _, Below.refl _ _⟩
  case round =>
    obtain ⟨k, rfl, hk, hkn, hown, hb⟩ := hrel
    have HB := Lib.hid hb
    have HO := Lib.hid hown
    clear hb hown
    by_cases h1 : k < l.length
    · by_cases h2 : k < 6
      · obtain ⟨b, off, rfl, hbl, hcs⟩ := HNE.out (by omega)
        have hcx : wr.cell? ⟨b, off + k, none⟩ = some (.string l[k]) := (HB.out.cell (p := ⟨b, off + k, none⟩) hbl).trans (hcs k l[k] (by simp))
        have hsz := HS.out l[k] (List.getElem_mem h1)
        have SN := Lib.hid (fewJ_snoc l k h1)
        obtain ⟨mn, hmn⟩ : ∃ mn, min l[k].size 100 = mn := ⟨_, rfl⟩
        have hm : min (l[k].size : Int) 100 = (mn : Int) := by omega
        have hm1 : (mn : Int) ≤ (l[k].size : Int) := by omega
        have CU : Hid (cut1h l[k] = l[k].extract 0 mn) := Lib.hid (by rw [← hmn]; rfl)
        generalize hll : l[k] = x at *
        clear hcs HNE hll hmn
        go_wp2
        go_region_law (refine step_append_lies _ (by rfl) _ _ _ (by rfl) w.heap.size 9 i9 _ 1 16 Tryz.underlying22 hi9 hz9 hy9 hb9 rfl (by omega) u3 k _ (by rfl) (by first | exact (HO.out.alloc _).drew | exact HO.out.drew.alloc _ | exact HO.out.alloc _) ⟨wr.heap.size, 0, none⟩ 1 1 [.string (x.extract 0 mn)] (by rfl) (by rfl) (World.news_of_block (cs := #[.string (x.extract 0 mn)]) (t := 9) (fr := (0, 0)) (by first | exact heap_alloc_new _ _ | (rw [drewHeap]; exact heap_alloc_new _ _))) (by simp [Value.oneCell']) (by omega) (by simp only [maxLen]; omega) (by omega) (by have := HB.out.size; simp; omega) (wr.heap.size + 1) (by simp) ?_
                       intro gg c3 W6 hown hgr hat hlt6)
        all_goals
          have O6 := Lib.hid hown
          have B6 : Hid (Below w.heap.size w W6) := Lib.hid ((HB.out.drew.alloc HB.out.size _).grown hgr (by have := HB.out.size; simp; omega) (fun j e => (HO.out.lt j (by first | exact e | simpa using e)).1))
          clear hown hgr hat hlt6
          go_wp2
          refine ⟨⟨k + 1, by go_num, by omega, by omega, ?_, B6.out⟩, by simp [intOf]; omega⟩
          have := O6.out
          rw [SN.out, CU.out]
          simpa [strV] using this
      · have e : fewJ l 6 = fewJ l k := by rw [show k = 6 by omega]
        have hkl : (fewJ l k).length = k := by rw [fewJ_length]; omega
        have R : Hid (wr.ownsRow w.heap.size 9 1 u3 (fewJ l 6).length (strV (fewJ l 6))) := Lib.hid (by rw [e, hkl]; exact HO.out)
        clear e hkl HO HNE HS
        go_wp2
        go_ret
        exact ⟨_, rfl, R.out, HB.out⟩
    · have e : fewJ l 6 = fewJ l k := by unfold fewJ; rw [List.take_of_length_le (by omega), List.take_of_length_le (by omega)]
      have hkl : (fewJ l k).length = k := by rw [fewJ_length]; omega
      have R : Hid (wr.ownsRow w.heap.size 9 1 u3 (fewJ l 6).length (strV (fewJ l 6))) := Lib.hid (by rw [e, hkl]; exact HO.out)
      clear e hkl HO HNE HS
      go_wp2
      go_ret
      exact ⟨_, rfl, R.out, HB.out⟩
end Go.Proofs.YthlmgookaljgnaaGreatDoor
namespace Go.Proofs.YthlmgookaljgnaaGreatDoor
open Go.RowKit
set_option linter.unusedVariables false

def sameJ (a b : List ByteArray) : Bool := decide (a = b)
theorem sameJ_len {a b : List ByteArray} (h : a.length ≠ b.length) : sameJ a b = false := decide_eq_false (fun e => h (by rw [e]))
theorem sameJ_at {a b : List ByteArray} (k : Nat) (h1 : k < a.length) (h2 : k < b.length) (h : a[k] ≠ b[k]) : sameJ a b = false := decide_eq_false (fun e => h (by subst e; rfl))
theorem sameJ_all {a b : List ByteArray} (h0 : a.length = b.length) (h : ∀ j (h1 : j < a.length) (h2 : j < b.length), a[j] = b[j]) : sameJ a b = true := decide_eq_true (List.ext_getElem h0 (fun j h1 h2 => h j h1 h2))

set_option maxRecDepth 100000 in
set_option maxHeartbeats 4000000 in
theorem sameJ_any (w : World) (av bv : Value) (A B : List ByteArray) (ha : SL w av A) (hb : SL w bv B) (hla : A.length ≤ 1000000) (hlb : B.length ≤ 1000000) :
    Calls Tryz.prog 15 #[av, bv] w fun e w' => e = .returned (.bool (sameJ A B)) ∧ Below w.heap.size w w' := by
  obtain ⟨aa, ac, rfl, hac, han⟩ := ha.form
  obtain ⟨ba, bc, rfl, hbc, hbn⟩ := hb.form
  have HA := Lib.hid han
  have HB := Lib.hid hbn
  obtain ⟨n, hn⟩ : ∃ n, A.length = n := ⟨_, rfl⟩
  obtain ⟨m, hm⟩ : ∃ m, B.length = m := ⟨_, rfl⟩
  have HN := Lib.hid hn
  have HM := Lib.hid hm
  rw [hn] at hac hla ⊢
  rw [hm] at hbc hlb ⊢
  clear ha hb han hbn hn hm
  by_cases hnm : n = m
  · have HNM : Hid (A.length = B.length) := Lib.hid (by rw [HN.out, HM.out, hnm])
    subst hnm
    go_enter Tryz.func15, Tryz.ntmps15
    go_wp2
    go_loopw [5] (fun iv wr => ∃ k : Nat, iv = .int .i64 k ∧ k ≤ n ∧ (∀ j (h1 : j < A.length) (h2 : j < B.length), j < k → A[j] = B[j]) ∧ Below w.heap.size w wr) (fun iv _ => n - (intOf iv).toNat)
    case atStart => exact ⟨0, rfl, Nat.zero_le _, fun j _ _ h => absurd h (by omega), Below.refl _ _⟩
    case round =>
      obtain ⟨k, rfl, hkn, hno, hbel⟩ := hrel
      have NO := Lib.hid hno
      have BE := Lib.hid hbel
      clear hno hbel
      by_cases h1 : k < n
      · have h1' : k < A.length := by have := HN.out; omega
        have h2' : k < B.length := by have := HM.out; omega
        obtain ⟨ab, ao, rfl, halt, hca⟩ := HA.out (by omega)
        obtain ⟨bb, bo, rfl, hblt, hcb⟩ := HB.out (by omega)
        have c1 : wr.cell? ⟨ab, ao + k, none⟩ = some (.string A[k]) := (BE.out.cell (p := ⟨ab, ao + k, none⟩) halt).trans (hca k A[k] (by simp))
        have c2 : wr.cell? ⟨bb, bo + k, none⟩ = some (.string B[k]) := (BE.out.cell (p := ⟨bb, bo + k, none⟩) hblt).trans (hcb k B[k] (by simp))
        have NK : Hid (A[k] = B[k] → ∀ j (h1 : j < A.length) (h2 : j < B.length), j < k + 1 → A[j] = B[j]) := Lib.hid (fun h j e1 e2 hj => by
          by_cases e : j = k
          · subst e; exact h
          · exact NO.out j e1 e2 (by omega))
        have YK : Hid (A[k] ≠ B[k] → sameJ A B = false) := Lib.hid (fun h => sameJ_at k h1' h2' h)
        generalize A[k] = x at *
        generalize B[k] = y at *
        clear HA HB hca hcb
        cases e : (x.toList == y.toList) with
        | true =>
          have exy : x = y := beq_iffB.1 (by rw [beq_toListBytes]; exact e)
          have NN := Lib.hid (NK.out exy)
          clear exy
          go_wp2
          go_quiet (fail)
          go_wp2
          go_roundw
          case rel => exact ⟨k + 1, by go_num, by omega, NN.out, below_drewN BE.out _⟩
          case measure => simp [intOf]; omega
        | false =>
          have exy : x ≠ y := fun h => by rw [h] at e; simp at e
          have E := Lib.hid (YK.out exy)
          clear exy
          go_wp2
          go_quiet (fail)
          go_wp2
          go_ret
          exact ⟨by rw [E.out]; rfl, below_drewN BE.out _⟩
      · have E : Hid (sameJ A B = true) := Lib.hid (sameJ_all HNM.out (fun j e1 e2 => NO.out j e1 e2 (by have := HN.out; omega)))
        clear HA HB
        go_wp2
        go_ret
        exact ⟨by rw [E.out]; rfl, BE.out⟩
  · have E : Hid (sameJ A B = false) := Lib.hid (sameJ_len (by rw [HN.out, HM.out]; exact hnm))
    have hnmi : ((n : Int) == (m : Int)) = false := beq_false_of_ne (by omega)
    clear hnm
    go_enter Tryz.func15, Tryz.ntmps15
    go_wp2
    go_ret
    exact ⟨by rw [E.out]; rfl, Below.refl _ _⟩
end Go.Proofs.YthlmgookaljgnaaGreatDoor
