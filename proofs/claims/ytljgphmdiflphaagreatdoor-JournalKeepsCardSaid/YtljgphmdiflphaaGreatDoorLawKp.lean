/- JournalKeeps: the walk. -/
import Derived.Test.YtljgphmdiflphaaGreatDoorSvL
import Derived.Test.YtljgphmdiflphaaGreatDoorOpenOp
namespace Go.Proofs.YtljgphmdiflphaaGreatDoor
open Go.RowKit Go.Shelf
set_option linter.unusedVariables false
set_option linter.unusedSimpArgs false

/-- in order, or without power in the middle of a group -/
def KpS (N : Nat) (br : Bool) (d : DV) (l : List ByteArray) : Prop :=
  (br = false ∧ Good N d l ∧ d.off = false ∧ 0 ≤ d.left) ∨ (br = true ∧ ∃ g, Rec N d l g ∧ g.length ≤ 1000)
theorem KpS.pe {N : Nat} {br : Bool} {d : DV} {l : List ByteArray} (h : KpS N br d l) : d.pe.length ≤ 1 := by
  rcases h with ⟨_, h, _⟩ | ⟨_, g, h, _⟩
  · rw [h.pe]; simp
  · exact h.2.1
/-- a power failure, and opening -/
theorem KpS.crash {N : Nat} {br : Bool} {d : DV} {l : List ByteArray} (h : KpS N br d l) (keep : List Int) (torn : Int) :
    ∃ d' q, openJ N (crashed d keep torn) = (0, some (growAll tv0 (l ++ q)), d') ∧ KpS N false d' (l ++ q) := by
  rcases h with ⟨_, h, _⟩ | ⟨_, g, h, _⟩
  · obtain ⟨h1, h2, h3⟩ := h.crash keep torn
    exact ⟨_, [], by rw [List.append_nil]; exact h1.open h2, .inl ⟨rfl, by rw [List.append_nil]; exact h1, h2, by omega⟩⟩
  · obtain ⟨d', l', e, hl', h1, h2, h3⟩ := h.crash keep torn
    rcases hl' with rfl | rfl
    · exact ⟨d', [], by rw [List.append_nil]; exact e, .inl ⟨rfl, by rw [List.append_nil]; exact h1, h2, by omega⟩⟩
    · exact ⟨d', g, e, .inl ⟨rfl, h1, h2, by omega⟩⟩
/-- a call of Append -/
theorem KpS.append {N : Nat} {br : Bool} {d : DV} {l : List ByteArray} (h : KpS N br d l) (g : List ByteArray) (hg : g.length ≤ 1000) (hs : ∀ r ∈ g, r.size ≤ 65536) :
    ∃ c br' l' d', appJ N br (growAll tv0 l) d g = (c, br', growAll tv0 l', d') ∧ KpS N br' d' l' ∧ ((c = 0 ∧ l' = l ++ g) ∨ ((c = 251 ∨ c = 260 ∨ c = 261) ∧ l' = l)) := by
  rcases h with ⟨rfl, h, ho, hl⟩ | ⟨rfl, g0, h, h0⟩
  · rcases appJ_power h ho hl hs with ⟨_, e⟩ | ⟨_, d', e, h1, h2, h3⟩ | ⟨_, d', e, h1⟩
    · exact ⟨261, false, l, d, e, .inl ⟨rfl, h, ho, hl⟩, .inr ⟨.inr (.inr rfl), rfl⟩⟩
    · exact ⟨0, false, l ++ g, d', e, .inl ⟨rfl, h1, h2, h3⟩, .inl ⟨rfl, rfl⟩⟩
    · exact ⟨251, true, l, d', e, .inr ⟨rfl, g, h1, hg⟩, .inr ⟨.inl rfl, rfl⟩⟩
  · exact ⟨260, true, l, d, if_pos (.inl rfl), .inr ⟨rfl, g0, h, h0⟩, .inr ⟨.inr (.inl rfl), rfl⟩⟩
theorem KpS.len {N : Nat} {br : Bool} {d : DV} {l : List ByteArray} (h : KpS N br d l) (hN : N ≤ 2000) : l.length ≤ 1000 := by
  rcases h with ⟨_, h, _⟩ | ⟨_, g, h, _⟩
  · have := needOf_length l; have := h.inv.fit; omega
  · rcases h.2.2 [] 0 with h | h
    · have := needOf_length l; have := h.fit; omega
    · have := needOf_length (l ++ g); have := h.fit; rw [List.length_append] at *; omega

def KpI (w wr : World) (bd N : Nat) (jv sv : Value) : Prop :=
  ∃ jb br l d G, jv = .pointer (some ⟨jb, 0, none⟩) ∧ SG w wr jb bd N br (growAll tv0 l) d G ∧ RowS wr sv l G ∧ KpS N br d l

theorem own_form2 {w : World} {B C : Nat} {A : Option Addr} {l : List ByteArray} (h : w.ownsRow B 9 1 (.slice A l.length C) l.length (strV l)) : (A = none ∧ C = 0 ∧ l = []) ∨ ∃ x, A = some x ∧ l.length ≤ C := by
  rcases h.2 with ⟨e1, e0⟩ | ⟨g, cap, cur, e1, _, _, hc, _⟩
  · injection e1 with e1 e2 e3
    exact .inl ⟨e1, e3, List.eq_nil_of_length_eq_zero e0⟩
  · injection e1 with e1 e2 e3
    exact .inr ⟨_, e1, by omega⟩
theorem sameJ_refl (w : World) (av bv : Value) (A : List ByteArray) (ha : SL w av A) (hb : SL w bv A) (hl : A.length ≤ 1000000) :
    Calls Tryz.prog 18 #[av, bv] w fun e w' => e = .returned (.bool true) ∧ Below w.heap.size w w' := by
  have := sameJ_any w av bv A A ha hb hl hl
  rwa [show sameJ A A = true from decide_eq_true rfl] at this
theorem CutK {N : Nat} {W : World} {bd : Nat} {br : Bool} {d : DV} {l : List ByteArray} {F : Nat → Prop} (hD : DiskF W bd N d F) (h : KpS N br d l) (x : Int) (h1 : 1 ≤ x) (h2 : x ≤ 100) :
    Calls Tryz.prog 29 #[.pointer (some ⟨bd, 0, none⟩), .int .i64 x] W fun e w' => ∃ c F' d', e = .returned (.int .i64 c) ∧ DiskF w' bd N d' F' ∧ Moves F F' W w' ∧ KpS N br d' l := by
  rcases h with ⟨hb, h, ho, hl⟩ | ⟨hb, g, h, hg⟩
  · refine (cutF hD ho x (by omega) (by omega)).mono ?_
    rintro e w' ⟨rfl, F', a, b⟩
    have hx : (x == 0) = false := by simp; omega
    exact ⟨0, F', _, rfl, a, b, .inl ⟨hb, ⟨⟨h.inv.vi, h.inv.fit, h.inv.small⟩, h.du, h.pe⟩, hx, by show 0 ≤ x; omega⟩⟩
  · refine (cutF_off hD h.1 x).mono ?_
    rintro e w' ⟨rfl, rfl⟩
    exact ⟨251, F, d, rfl, hD, Moves.refl _ _, .inr ⟨hb, g, h, hg⟩⟩
theorem SL_take {w : World} {a : Option Addr} {n c m : Nat} {l : List ByteArray} (h : SL w (.slice a n c) l) (hm : m ≤ n) : SL w (.slice a m c) (l.take m) := by
  obtain ⟨a', c', e, h1, h2⟩ := h.form
  injection e with e1 e2 e3
  subst e1 e2 e3
  have hl : (l.take m).length = m := by rw [List.length_take]; omega
  refine ⟨a, c, by rw [hl], by omega, fun h0 => ?_⟩
  obtain ⟨b, off, ea, hlt, hc⟩ := h2 (by omega)
  refine ⟨b, off, ea, hlt, fun j x hj => hc j x ?_⟩
  rw [List.getElem?_take] at hj
  split at hj
  · exact hj
  · cases hj

set_option maxRecDepth 100000 in
set_option maxHeartbeats 8000000 in
theorem LawKp_any (w : World) (n : Int) (hn0 : -9223372036854775808 ≤ n) (hn1 : n ≤ 9223372036854775807) (oa : Option Addr) (ol oc : Nat) (hor : OpsRow w oa ol) (holc : ol ≤ oc) (hoc : oc ≤ 9223372036854775807) (hR : RoundLaid w) (a : Addr) (hD : DamLaid a w) :
    Calls Tryz.prog 6 #[.int .i64 n, .slice oa ol oc] w fun e w' => e = .returned (.bool true) ∧ Below w.heap.size w w' := by
  have HR := Lib.hid hR
  have HD := Lib.hid hD
  have SN := Lib.hid (saneJ_any w hR a hD)
  have SZ := Lib.hid (fun W => sizeJ_any n W hn0 hn1)
  have hNb := sizeJ_bounds n
  generalize sizeJ n = N at *
  have HOR := Lib.hid hor
  obtain ⟨m, hm⟩ : ∃ m, min ol 20 = m := ⟨_, rfl⟩
  have HM := Lib.hid hm
  clear hR hD hn0 hn1 hm hor
  go_enter Tryz.func6, Tryz.ntmps6
  go_wp2_with fail
  refine SN.out.mono ?_
  rintro e w1 ⟨rfl, hB1⟩
  have HB1 := Lib.hid hB1
  clear hB1 SN
  go_wp2_with (go_at_call 15; refine (SZ.out _).mono ?_; rintro e w' ⟨rfl, rfl⟩)
  refine (newF w1 N hNb.1 (by omega)).mono ?_
  rintro e w2 ⟨bd, rfl, ⟨F1, hD1, hF1⟩, hB2⟩
  have HD1 := Lib.hid hD1
  have HF1 := Lib.hid (fun k hk => Nat.le_trans HB1.out.size (hF1 k hk))
  have HB2 := Lib.hid (HB1.out.trans (hB2.mono HB1.out.size))
  clear hD1 hF1 hB2 HB1
  go_wp2_with fail
  refine (OpenS HD1.out HF1.out HB2.out rfl (by omega) HR.out a HD.out (JInv.new N)).mono ?_
  rintro e w3 ⟨jb, G3, rfl, h3, -, -⟩
  have H3 := Lib.hid h3
  clear h3 HD1 HF1 HB2
  go_wp2
  go_loopw [8, 10, 11] (fun jv sv iv wr => ∃ k : Nat, iv = .int .i64 (k : Int) ∧ k ≤ m ∧ KpI w wr bd N jv sv) (fun _ _ iv _ => m - (intOf iv).toNat)
  case atStart => exact ⟨0, rfl, Nat.zero_le _, jb, false, [], newD N, G3, rfl, H3.out, RowS.nil _ _, .inl ⟨rfl, ⟨JInv.new N, rfl, rfl⟩, rfl, Int.le_refl _⟩⟩
  case round =>
    obtain ⟨k, rfl, hk, jb1, br, l, d, G, rfl, hG, hS, hst⟩ := hrel
    clear H3
    have hmm := HM.out
    by_cases hlt : k < m
    · have hk1 : (k : Int) < (ol : Int) := by omega
      have hk8 : (k : Int) < 20 := by omega
      have HG := Lib.hid hG
      have SURE := Lib.hid hS
      have ST := Lib.hid hst
      have hll := hst.len (by omega)
      clear hG hS hst
      obtain ⟨ob, oo, hoa, hobl, kind, lv, gl, nn, ka, kl, kc, ks, hop⟩ := HOR.out k (by omega)
      subst hoa
      have c0 : wr.cell? ⟨ob, oo + k * 4, none⟩ = some (.int .i64 kind) := (HG.out.bel.cell (p := ⟨ob, oo + k * 4, none⟩) hobl).trans hop.c0
      have HOP := Lib.hid hop
      have PK8 := Lib.hid (fun W => pickJ_any kind 8 W (by decide) (by decide) hop.k0 hop.k1)
      have hq1 := pickJ_lo kind 8 (by decide)
      have hq2 := pickJ_hi kind 8 (by decide)
      clear hop
      generalize pickJ kind 8 = q at *
      go_wp2_with fail
      refine (PK8.out _).mono ?_
      rintro e w' ⟨rfl, rfl⟩
      have hqs : ((q == 5) = true) ∨ (((q == 5) = false ∧ (q == 6) = true) ∨ ((q == 5) = false ∧ (q == 6) = false ∧ (q == 7) = true)) ∨ ((q == 5) = false ∧ (q == 6) = false ∧ (q == 7) = false) := by
        by_cases h5 : q = 5
        · left; simpa using h5
        · by_cases h6 : q = 6
          · right; left; left; exact ⟨by simpa using h5, by simpa using h6⟩
          · by_cases h7 : q = 7
            · right; left; right; exact ⟨by simpa using h5, by simpa using h6, by simpa using h7⟩
            · right; right; exact ⟨by simpa using h5, by simpa using h6, by simpa using h7⟩
      have c1 : wr.cell? ⟨ob, oo + k * 4 + 1, none⟩ = some lv := (HG.out.bel.cell (p := ⟨ob, oo + k * 4 + 1, none⟩) hobl).trans HOP.out.c1
      have c2 : wr.cell? ⟨ob, oo + k * 4 + 2, none⟩ = some (.int .i64 nn) := (HG.out.bel.cell (p := ⟨ob, oo + k * 4 + 2, none⟩) hobl).trans HOP.out.c2
      have c3 : wr.cell? ⟨ob, oo + k * 4 + 3, none⟩ = some (.slice ka kl kc) := (HG.out.bel.cell (p := ⟨ob, oo + k * 4 + 3, none⟩) hobl).trans HOP.out.c3
      obtain ⟨sa, sc, rfl, hsc, -⟩ := SURE.out.sl.form
      obtain ⟨F0, f1, f2, f3⟩ := HG.out.disk
      have D0 := Lib.hid f1
      have F0n := Lib.hid f3
      have F0g := Lib.hid f2
      clear f1 f2 f3 hq1 hq2
      rcases hqs with h5 | h67 | ⟨h5, h6, h7⟩
      focus
        have PK5 := Lib.hid (fun W => pickJ_any nn 5 W (by decide) (by decide) HOP.out.n0 HOP.out.n1)
        have hp1 := pickJ_lo nn 5 (by decide)
        have hp2 := pickJ_hi nn 5 (by decide)
        generalize pickJ nn 5 = p at *
        have CT := Lib.hid (CutK D0.out ST.out (1 + p) (by omega) (by omega))
        clear c0 c1 c3
        go_wp2_with (first
          | (go_at_call 14; refine (PK5.out _).mono ?_; rintro e w' ⟨rfl, rfl⟩)
          | fail)
        refine CT.out.mono ?_
        rintro e w5 ⟨c, F5, dE, rfl, hD5, hm5, hk5⟩
        obtain ⟨GE, h5', hg5⟩ := HG.out.moved D0.out hD5 hm5
        have HE := Lib.hid h5'
        have SUREE := Lib.hid (SURE.out.moves hg5)
        have STE := Lib.hid hk5
        clear h5' hg5 hD5 hm5 hk5 CT D0 HG SURE ST c2 h5 F0n F0g
        go_wp2_with fail
        obtain ⟨jbE, hjE⟩ : ∃ x, jb1 = x := ⟨_, rfl⟩
        obtain ⟨brE, hbE⟩ : ∃ x, br = x := ⟨_, rfl⟩
        obtain ⟨lE, hlE⟩ : ∃ x, l = x := ⟨_, rfl⟩
        subst hjE hbE hlE
      rotate_left
      focus
        obtain ⟨mk, hmk⟩ : ∃ mk, min kl 20 = mk := ⟨_, rfl⟩
        have hmi : min (kl : Int) 20 = (mk : Int) := by omega
        have hmk1 : mk ≤ kl := by omega
        have hmi1 : (mk : Int) ≤ (kc : Int) := by have := HOP.out.kk; omega
        have hIk : IntsAt wr.heap.size wr (.slice ka mk kc) (ks.take mk) := by
          rcases (HOP.out.kr.2 mk hmk1).below HG.out.bel with h | ⟨b, off, cap, e1, e2, e3⟩
          · exact .inl h
          · exact .inr ⟨b, off, cap, e1, Nat.lt_of_lt_of_le e2 HG.out.bel.size, e3⟩
        obtain ⟨dj, q2, hoj, hkj⟩ := ST.out.crash (ks.take mk) nn
        have hkl20 : (ks.take mk).length ≤ 100 := by rw [List.length_take]; omega
        have hpe1 := ST.out.pe
        have CR := Lib.hid (fun W (hB : Below wr.heap.size wr W) => crashF (D0.out.upd (Upd.of_below (S := fun _ => False) hB) (fun _ _ f => f)) (ks.take mk) ka mk kc (by
          rcases hIk with h | ⟨b, off, cap, e1, e2, e3⟩
          · exact .inl h
          · exact .inr ⟨b, off, cap, e1, Nat.lt_of_lt_of_le e2 hB.size, fun j hj => (hB.cell (p := ⟨b, off + j, none⟩) e2).trans (e3 j hj)⟩) (by omega) (by omega) nn HOP.out.n0 HOP.out.n1)
        have HOJ := Lib.hid hoj
        have STE := Lib.hid hkj
        obtain ⟨lE, hlE⟩ : ∃ x, l ++ q2 = x := ⟨_, rfl⟩
        have hlen2 : l.length ≤ lE.length := by rw [← hlE, List.length_append]; omega
        have htk : lE.take l.length = l := by rw [← hlE]; simp
        have HTK := Lib.hid htk
        have hpe2 : (crashed d (ks.take mk) nn).pe.length ≤ 100000 := Nat.zero_le _
        rw [hlE] at HOJ STE
        have hle2 : ¬ (lE.length : Int) < (l.length : Int) := by omega
        have SM2 := Lib.hid (fun W av bv ha hb => sameJ_any W av bv l l ha hb (by omega) (by omega))
        rw [show sameJ l l = true from decide_eq_true rfl] at SM2
        clear hoj hkj hlE htk hIk hmk
        generalize hcd : crashed d (ks.take mk) nn = dc at *
        clear hcd
        have hkk : ka = none ∨ ∃ x, ka = some x := by cases ka; exact .inl rfl; exact .inr ⟨_, rfl⟩
        have HKN := Lib.hid HOP.out.kr.1
        rcases hkk with rfl | ⟨kx, rfl⟩
        focus
          obtain ⟨e1, e2⟩ := HKN.out rfl
          subst e1 e2
          obtain rfl : mk = 0 := by omega
          have hmi0 : min (0 : Int) 20 = 0 := by decide
          rcases h67 with ⟨h5, h6⟩ | ⟨h5, h6, h7⟩
          all_goals
            go_wp2
            go_region_held3 (fun w' => w'.cell? ⟨ob, oo + k * 4 + 2, none⟩ = some (.int .i64 nn) ∧ w'.cell? ⟨ob, oo + k * 4 + 3, none⟩ = some (.slice none 0 0))
              (first | exact ⟨c2, c3⟩ | exact ⟨k2, k3⟩ | go_keep)
              (first
                | (go_at_call 30
                   refine (CR.out _ (by first | exact Below.refl _ _ | exact (Below.refl _ _).drew)).mono ?_
                   rintro e w5 ⟨rfl, F5, hD5, hm5⟩
                   have D5 := Lib.hid hD5
                   have M5 : Hid (Moves F0 F5 wr w5) := Lib.hid (by first | exact hm5 | exact ⟨Upd.of_drew hm5.1, hm5.2⟩)
                   have k2 := ((M5.out.base F0n.out HG.out.bel.size).2.cell (p := ⟨ob, oo + k * 4 + 2, none⟩) hobl).trans c2
                   have k3 := ((M5.out.base F0n.out HG.out.bel.size).2.cell (p := ⟨ob, oo + k * 4 + 3, none⟩) hobl).trans c3
                   clear hD5 hm5)
                | fail)
            all_goals
              obtain ⟨hF5, hB5⟩ := M5.out.base F0n.out HG.out.bel.size
              have FB5 := Lib.hid (And.intro hF5 (HG.out.bel.trans hB5))
              have SURE5 := Lib.hid ((SURE.out.mono F0g.out).moves M5.out)
              clear hF5 hB5 CR D0 F0n M5 HG SURE ST F0g h5 h6 c0 c1 c2 c3 k2 k3
              go_wp2_with fail
              refine (OpenSJ D5.out FB5.out.1 FB5.out.2 (by omega) HR.out a HD.out hpe2 HOJ.out).mono ?_
              rintro e w6 ⟨jbE, G6, rfl, h6, hm6⟩
              have H6 := Lib.hid h6
              have SURE6 := Lib.hid (SURE5.out.moves hm6)
              clear h6 hm6 D5 FB5 SURE5
              go_wp2_with fail
              refine (RecordsS H6.out).mono ?_
              rintro e w7 ⟨A7, C7, rfl, -, hB7⟩
              have H7 := Lib.hid (H6.out.below hB7)
              have SURE7 := Lib.hid (SURE6.out.below hB7)
              clear hB7 H6 SURE6
              go_wp2_with fail
              refine (RecordsS H7.out).mono ?_
              rintro e w8 ⟨A8, C8, rfl, hO8, hB8⟩
              have H8 := Lib.hid (H7.out.below hB8)
              have SURE8 := Lib.hid (SURE7.out.below hB8)
              have O8 := Lib.hid (by have := SL_take (SL_own hO8) hlen2; rw [HTK.out] at this; exact this)
              have hform := own_form2 hO8
              clear hB8 H7 SURE7 hO8
              rcases hform with ⟨rfl, rfl, hl0⟩ | ⟨x8, rfl, hc8⟩
              focus
                have hl1 : l = [] := by rw [hl0] at hlen2; exact List.eq_nil_of_length_eq_zero (by simpa using hlen2)
                subst hl0 hl1
              all_goals
                go_wp2_with fail
                refine (SM2.out _ _ _ O8.out SURE8.out.sl).mono ?_
                rintro e w9 ⟨rfl, hB9⟩
                have H9 := Lib.hid (H8.out.below hB9)
                clear hB9 H8 O8 SURE8
                go_wp2_with fail
                refine (RecordsS H9.out).mono ?_
                rintro e w10 ⟨A10, C10, rfl, hO10, hB10⟩
                have HE := Lib.hid (H9.out.below hB10)
                have SUREE := Lib.hid (RowK.new hO10 (fun k hk => H9.out.j.lt hk)).toS
                clear hO10 hB10 H9
                go_wp2_with fail
        rotate_right
        focus
          rcases h67 with ⟨h5, h6⟩ | ⟨h5, h6, h7⟩
          all_goals
            go_wp2
            go_region_held3 (fun w' => w'.cell? ⟨ob, oo + k * 4 + 2, none⟩ = some (.int .i64 nn) ∧ w'.cell? ⟨ob, oo + k * 4 + 3, none⟩ = some (.slice (some kx) kl kc))
              (first | exact ⟨c2, c3⟩ | exact ⟨k2, k3⟩ | go_keep)
              (first
                | (go_at_call 30
                   refine (CR.out _ (by first | exact Below.refl _ _ | exact (Below.refl _ _).drew)).mono ?_
                   rintro e w5 ⟨rfl, F5, hD5, hm5⟩
                   have D5 := Lib.hid hD5
                   have M5 : Hid (Moves F0 F5 wr w5) := Lib.hid (by first | exact hm5 | exact ⟨Upd.of_drew hm5.1, hm5.2⟩)
                   have k2 := ((M5.out.base F0n.out HG.out.bel.size).2.cell (p := ⟨ob, oo + k * 4 + 2, none⟩) hobl).trans c2
                   have k3 := ((M5.out.base F0n.out HG.out.bel.size).2.cell (p := ⟨ob, oo + k * 4 + 3, none⟩) hobl).trans c3
                   clear hD5 hm5)
                | fail)
            all_goals
              obtain ⟨hF5, hB5⟩ := M5.out.base F0n.out HG.out.bel.size
              have FB5 := Lib.hid (And.intro hF5 (HG.out.bel.trans hB5))
              have SURE5 := Lib.hid ((SURE.out.mono F0g.out).moves M5.out)
              clear hF5 hB5 CR D0 F0n M5 HG SURE ST F0g h5 h6 c0 c1 c2 c3 k2 k3
              go_wp2_with fail
              refine (OpenSJ D5.out FB5.out.1 FB5.out.2 (by omega) HR.out a HD.out hpe2 HOJ.out).mono ?_
              rintro e w6 ⟨jbE, G6, rfl, h6, hm6⟩
              have H6 := Lib.hid h6
              have SURE6 := Lib.hid (SURE5.out.moves hm6)
              clear h6 hm6 D5 FB5 SURE5
              go_wp2_with fail
              refine (RecordsS H6.out).mono ?_
              rintro e w7 ⟨A7, C7, rfl, -, hB7⟩
              have H7 := Lib.hid (H6.out.below hB7)
              have SURE7 := Lib.hid (SURE6.out.below hB7)
              clear hB7 H6 SURE6
              go_wp2_with fail
              refine (RecordsS H7.out).mono ?_
              rintro e w8 ⟨A8, C8, rfl, hO8, hB8⟩
              have H8 := Lib.hid (H7.out.below hB8)
              have SURE8 := Lib.hid (SURE7.out.below hB8)
              have O8 := Lib.hid (by have := SL_take (SL_own hO8) hlen2; rw [HTK.out] at this; exact this)
              have hform := own_form2 hO8
              clear hB8 H7 SURE7 hO8
              rcases hform with ⟨rfl, rfl, hl0⟩ | ⟨x8, rfl, hc8⟩
              focus
                have hl1 : l = [] := by rw [hl0] at hlen2; exact List.eq_nil_of_length_eq_zero (by simpa using hlen2)
                subst hl0 hl1
              all_goals
                go_wp2_with fail
                refine (SM2.out _ _ _ O8.out SURE8.out.sl).mono ?_
                rintro e w9 ⟨rfl, hB9⟩
                have H9 := Lib.hid (H8.out.below hB9)
                clear hB9 H8 O8 SURE8
                go_wp2_with fail
                refine (RecordsS H9.out).mono ?_
                rintro e w10 ⟨A10, C10, rfl, hO10, hB10⟩
                have HE := Lib.hid (H9.out.below hB10)
                have SUREE := Lib.hid (RowK.new hO10 (fun k hk => H9.out.j.lt hk)).toS
                clear hO10 hB10 H9
                go_wp2_with fail
      rotate_right 2
      focus
        have FW := Lib.hid (fun W (hB : Below w.heap.size w W) => fewJ_any W lv gl (HOP.out.sl.below hB) HOP.out.ll.1 HOP.out.ll.2)
        have hfs := fewJ_small gl 6
        have hfl : (fewJ gl 6).length ≤ 6 := by rw [fewJ_length]; omega
        have HFS := Lib.hid hfs
        have CW := Lib.hid (fun W (hB : Below w.heap.size w W) => show W.cell? ⟨ob, oo + k * 4 + 1, none⟩ = some lv from (hB.cell (p := ⟨ob, oo + k * 4 + 1, none⟩) hobl).trans HOP.out.c1)
        obtain ⟨va, vl, vc, rfl⟩ : ∃ va vl vc, lv = .slice va vl vc := by
          obtain ⟨x, c, e, _⟩ := HOP.out.sl.form
          exact ⟨_, _, _, e⟩
        generalize fewJ gl 6 = L at *
        obtain ⟨c, brE, lE, dE, he, hst2, hcs⟩ := ST.out.append L (by omega) (fun r hr => by have := HFS.out r hr; omega)
        have HAE := Lib.hid he
        have STE := Lib.hid hst2
        have hpe1 := ST.out.pe
        clear he hst2 hfs c0 c1 c2 c3 D0 F0n F0g
        go_wp2_with fail
        refine (RecordsS HG.out).mono ?_
        rintro e w4 ⟨A4, C4, rfl, hO4, hB4⟩
        have H4 := Lib.hid (HG.out.below hB4)
        have WAS4 := Lib.hid (RowK.new hO4 (fun k hk => HG.out.j.lt hk)).toS
        have SURE4 := Lib.hid (SURE.out.below hB4)
        have c4 : w4.cell? ⟨ob, oo + k * 4 + 1, none⟩ = some (.slice va vl vc) := CW.out w4 H4.out.bel
        clear hO4 hB4 HG SURE h5 h6 h7
        go_wp2_with fail
        refine (FW.out _ H4.out.bel).mono ?_
        rintro e w5 ⟨v5, rfl, hO5, hB5⟩
        have H5 := Lib.hid (H4.out.below hB5)
        have S5 := Lib.hid (SL_own hO5)
        have WAS5 := Lib.hid (WAS4.out.below hB5)
        have SURE5 := Lib.hid (SURE4.out.below hB5)
        clear hO5 hB5 H4 WAS4 SURE4 c4
        go_wp2_with fail
        refine (AppendS H5.out HR.out (by omega) _ L S5.out (by omega) (fun r hr => by have := HFS.out r hr; omega) (by omega) HAE.out).mono ?_
        rintro e w6 ⟨rfl, GE, h6, hm6⟩
        have H6 := Lib.hid h6
        have WAS6 := Lib.hid (WAS5.out.moves hm6)
        have SURE6 := Lib.hid (SURE5.out.moves hm6)
        clear h6 hm6 H5 WAS5 SURE5 S5
        obtain ⟨jbE, hjE⟩ : ∃ x, jb1 = x := ⟨_, rfl⟩
        subst hjE
        have hcs2 : (c = 0 ∧ lE = l ++ L) ∨ ((c == 0) = false ∧ lE = l) := by
          rcases hcs with h | ⟨h, e⟩
          · exact .inl h
          · refine .inr ⟨?_, e⟩
            rcases h with rfl | rfl | rfl <;> rfl
        clear hcs
        rcases hcs2 with ⟨rfl, hle⟩ | ⟨hc0, hle⟩
        focus
          have c6 : w6.cell? ⟨ob, oo + k * 4 + 1, none⟩ = some (.slice va vl vc) := CW.out w6 H6.out.bel
          have HLE := Lib.hid hle
          clear hle
          go_wp2
          go_region_held3 (fun w' => w'.cell? ⟨ob, oo + k * 4 + 1, none⟩ = some (.slice va vl vc))
            ((first | exact c6 | exact keepA c6 | exact keepA0 c6 | exact c7 | exact keepA0 c7 | exact c8 | exact c9 | go_keep))
            (first
            | (refine step_append_empty (by rfl) _ _ (by rfl) w6.heap.size (by rfl) _ l (by rfl) (by first | exact WAS6.out.sl.below ((Below.refl _ _).alloc (Nat.le_refl _) _) | exact WAS6.out.sl.below ((Below.refl _ _).alloc (Nat.le_refl _) _).drew | exact WAS6.out.sl.below ((Below.refl _ _).drew.alloc (Nat.le_refl _) _)) (by omega) w6.heap.size (by simp) ?_
               intro v7 w7 hg7 hb7
               have G7 := Lib.hid hg7
               have B7 : Hid (Below w6.heap.size w6 w7) := Lib.hid (by first | exact ((Below.refl _ _).alloc (Nat.le_refl _) _).trans (hb7.mono (by simp)) | exact ((Below.refl _ _).alloc (Nat.le_refl _) _).drew.trans (hb7.mono (by simp)) | exact ((Below.refl _ _).drew.alloc (Nat.le_refl _) _).trans (hb7.mono (by simp)))
               have c7 : w7.cell? ⟨ob, oo + k * 4 + 1, none⟩ = some (.slice va vl vc) := CW.out w7 (H6.out.bel.trans (B7.out.mono H6.out.bel.size))
               clear hg7 hb7)
            | (go_at_call 11
               refine (FW.out _ (by first | exact H6.out.bel.trans (B7.out.mono H6.out.bel.size) | exact (H6.out.bel.trans (B7.out.mono H6.out.bel.size)).drew)).mono ?_
               rintro e w8 ⟨v8, rfl, hO8, hB8⟩
               have B8 : Hid (Below w6.heap.size w6 w8) := Lib.hid (by first | exact B7.out.trans (hB8.mono B7.out.size) | exact B7.out.trans (((Below.refl _ _).drew.trans hB8).mono B7.out.size))
               have G8 : Hid (Grow w6.heap.size w8 v7 l) := Lib.hid (by first | exact G7.out.below hB8 | exact (G7.out.below (Below.refl _ _).drew).below hB8)
               have S8 := Lib.hid (SL_own hO8)
               have c8 : w8.cell? ⟨ob, oo + k * 4 + 1, none⟩ = some (.slice va vl vc) := CW.out w8 (H6.out.bel.trans (B8.out.mono H6.out.bel.size))
               clear hO8 hB8)
            | (refine step_append_grow (by rfl) _ _ (by rfl) w6.heap.size v7 l (by rfl) (by first | exact G8.out | exact G8.out.below (Below.refl _ _).drew) _ L (by rfl) (by first | exact S8.out | exact S8.out.below (Below.refl _ _).drew) (by omega) (by have := B8.out.size; first | omega | (simp; omega)) ?_
               intro v9 w9 hg9 hb9
               have G9 := Lib.hid hg9
               have B9 : Hid (Below w6.heap.size w6 w9) := Lib.hid (by first | exact B8.out.trans hb9 | exact B8.out.trans ((Below.refl _ _).drew.trans hb9))
               have c9 : w9.cell? ⟨ob, oo + k * 4 + 1, none⟩ = some (.slice va vl vc) := CW.out w9 (H6.out.bel.trans (B9.out.mono H6.out.bel.size))
               clear hg9 hb9)
            | fail)
          all_goals
            have HE := Lib.hid (H6.out.below B9.out)
            have SUREE : Hid (RowS w9 v9 lE GE) := Lib.hid (by rw [HLE.out]; exact G9.out.toS (fun k hk => H6.out.j.lt hk))
            clear c6 c7 c8 c9 B7 B8 B9 G7 G8 G9 S8 H6 WAS6 SURE6
            obtain ⟨se, sE, rfl, -, -⟩ := SUREE.out.sl.form
            go_wp2_with fail
        rotate_right
        focus
          subst hle
          have HE := H6
          have SUREE := SURE6
          clear H6 SURE6 WAS6
          go_wp2_with fail
      all_goals
        have hlE := STE.out.len (by omega)
        refine (RecordsS HE.out).mono ?_
        rintro e wa ⟨Aa, Ca, rfl, hOa, hBa⟩
        have Ha := Lib.hid (HE.out.below hBa)
        have SUREa := Lib.hid (SUREE.out.below hBa)
        have Oa := Lib.hid (SL_own hOa)
        have hform := own_form2 hOa
        clear hBa HE SUREE hOa
        have SM := Lib.hid (fun W av bv ha hb => sameJ_refl W av bv _ ha hb (Nat.le_trans hlE (by decide)))
        rcases hform with ⟨rfl, rfl, hl0⟩ | ⟨xa, rfl, hca⟩
        focus
          try subst hl0
        all_goals
          go_wp2_with fail
          refine (SM.out _ _ _ Oa.out SUREa.out.sl).mono ?_
          rintro e wb ⟨rfl, hBb⟩
          have Hb := Lib.hid (Ha.out.below hBb)
          have SUREb := Lib.hid (SUREa.out.below hBb)
          clear hBb Ha SUREa Oa
          go_wp2
          go_roundw
          case rel => exact ⟨k + 1, by go_num, by omega, _, _, _, _, _, rfl, Hb.out, SUREb.out, STE.out⟩
          case measure => simp [intOf]; omega
    · have HG := Lib.hid hG
      have hex : ¬ (k : Int) < (ol : Int) ∨ ((k : Int) < (ol : Int) ∧ ¬ (k : Int) < 20) := by omega
      clear hG hS hst
      rcases hex with hx | ⟨hx0, hx⟩
      all_goals
        go_wp2
        go_ret
        exact ⟨rfl, HG.out.bel⟩
end Go.Proofs.YtljgphmdiflphaaGreatDoor
