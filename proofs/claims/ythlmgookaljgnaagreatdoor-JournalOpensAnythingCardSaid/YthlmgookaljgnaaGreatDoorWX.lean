/- law26: both journals, or none, on both disks: the state between two calls of the sequence. -/
import Derived.Test.YthlmgookaljgnaaGreatDoorOpenQ
namespace Go.Proofs.YthlmgookaljgnaaGreatDoor
open Go.RowKit Go.Shelf
set_option linter.unusedVariables false
set_option linter.unusedSimpArgs false

/-- the program's journal on its disk, or none -/
def JOn (w : World) (bd n : Nat) (pj : Value) (o : Option (Bool × TV)) (d : DV) (F : Nat → Prop) : Prop :=
  (o = none ∧ pj = .pointer none ∧ DiskF w bd n d F) ∨ ∃ jb br t, o = some (br, t) ∧ pj = .pointer (some ⟨jb, 0, none⟩) ∧ JG w jb bd n br t d F
/-- the reference's journal on its disk, or none -/
def ROn (w : World) (bx n : Nat) (pk : Value) (o : Option (Bool × TV)) (d : DV) (G : Nat → Prop) : Prop :=
  (o = none ∧ pk = .pointer none ∧ RefF w bx n d G) ∨ ∃ kb br t, o = some (br, t) ∧ pk = .pointer (some ⟨kb, 0, none⟩) ∧ RG w kb bx n br t d G
theorem JOn.upd {S : Nat → Prop} {w w' : World} {bd n : Nat} {pj : Value} {o : Option (Bool × TV)} {d : DV} {F : Nat → Prop} (h : JOn w bd n pj o d F) (hU : Upd S w w') (hS : ∀ k, F k → ¬ S k) : JOn w' bd n pj o d F := by
  rcases h with ⟨e1, e2, h⟩ | ⟨jb, br, t, e1, e2, h⟩
  · exact .inl ⟨e1, e2, h.upd hU hS⟩
  · exact .inr ⟨jb, br, t, e1, e2, h.upd hU hS⟩
theorem ROn.upd {S : Nat → Prop} {w w' : World} {bx n : Nat} {pk : Value} {o : Option (Bool × TV)} {d : DV} {G : Nat → Prop} (h : ROn w bx n pk o d G) (hU : Upd S w w') (hS : ∀ k, G k → ¬ S k) : ROn w' bx n pk o d G := by
  rcases h with ⟨e1, e2, h⟩ | ⟨jb, br, t, e1, e2, h⟩
  · exact .inl ⟨e1, e2, h.upd hU hS⟩
  · exact .inr ⟨jb, br, t, e1, e2, h.upd hU hS⟩
theorem JOn.lt {w : World} {bd n : Nat} {pj : Value} {o : Option (Bool × TV)} {d : DV} {F : Nat → Prop} (h : JOn w bd n pj o d F) {k : Nat} (hk : F k) : k < w.heap.size := by
  rcases h with ⟨e1, e2, h⟩ | ⟨jb, br, t, e1, e2, h⟩
  · exact h.lt hk
  · exact h.lt hk
theorem ROn.lt {w : World} {bx n : Nat} {pk : Value} {o : Option (Bool × TV)} {d : DV} {G : Nat → Prop} (h : ROn w bx n pk o d G) {k : Nat} (hk : G k) : k < w.heap.size := by
  rcases h with ⟨e1, e2, h⟩ | ⟨jb, br, t, e1, e2, h⟩
  · exact h.lt hk
  · exact h.lt hk
/-- the disk under it, and what a move of the disk makes of it -/
theorem JOn.disk {w : World} {bd n : Nat} {pj : Value} {o : Option (Bool × TV)} {d : DV} {F : Nat → Prop} (h : JOn w bd n pj o d F) :
    ∃ F0, DiskF w bd n d F0 ∧ (∀ k, F0 k → F k) ∧ ∀ {w' : World} {d' : DV} {F1 : Nat → Prop}, DiskF w' bd n d' F1 → Moves F0 F1 w w' → ∃ F', JOn w' bd n pj o d' F' ∧ Moves F F' w w' := by
  rcases h with ⟨e1, e2, h⟩ | ⟨jb, br, t, e1, e2, h⟩
  · exact ⟨F, h, fun _ f => f, fun {w' d' F1} hD hm => ⟨F1, .inl ⟨e1, e2, hD⟩, hm⟩⟩
  · obtain ⟨F0, hF0, hs, hu⟩ := h.disk
    refine ⟨F0, hF0, hs, fun {w' d' F1} hD hm => ?_⟩
    obtain ⟨F', a, b⟩ := hu hD hm
    exact ⟨F', .inr ⟨jb, br, t, e1, e2, a⟩, b⟩
theorem ROn.disk {w : World} {bx n : Nat} {pk : Value} {o : Option (Bool × TV)} {d : DV} {G : Nat → Prop} (h : ROn w bx n pk o d G) :
    ∃ gs cs lv, RefAt w bx gs cs lv n d ∧ (∀ k, FootR bx gs lv k → G k) ∧ ∀ {w' : World} {d' : DV}, (∃ gs' cs' lv', RefAt w' bx gs' cs' lv' n d' ∧ Moves (FootR bx gs lv) (FootR bx gs' lv') w w') → ∃ G', ROn w' bx n pk o d' G' ∧ Moves G G' w w' := by
  rcases h with ⟨e1, e2, gs, cs, lv, h, hG⟩ | ⟨kb, br, t, e1, e2, lv, gs, cs, lv0, hj, hr, a, b, c⟩
  · refine ⟨gs, cs, lv, h, fun k f => (hG k).2 f, fun {w' d'} hh => ?_⟩
    obtain ⟨G', k, m⟩ := RefF.of hG hh
    exact ⟨G', .inl ⟨e1, e2, k⟩, m⟩
  · refine ⟨gs, cs, lv0, hr, fun k f => (c k).2 (.inr (.inr f)), fun {w' d'} hh => ?_⟩
    obtain ⟨g2, c2, l2, hR, hM⟩ := hh
    have hA : RAt w w kb bx n gs cs gs cs lv lv0 lv0 br t d := ⟨hj, hr, a, b, Moves.refl _ _⟩
    obtain ⟨G', h1, h2⟩ := (hA.step hR hM).out c
    exact ⟨G', .inr ⟨kb, br, t, e1, e2, h1⟩, h2⟩
/-- both sides, apart from each other and from the world's block wb; all of it behind w -/
structure WX (w W : World) (wb bd bx n : Nat) (pj pk : Value) (o : Option (Bool × TV)) (d : DV) (p : Option (Bool × TV)) (e : DV) (F G : Nat → Prop) : Prop where
  cell : W.heap[wb]? = some (.cells #[.pointer (some ⟨bd, 0, none⟩), pj, .pointer (some ⟨bx, 0, none⟩), pk] 32 (0, 0))
  kj : JOn W bd n pj o d F
  kr : ROn W bx n pk p e G
  ap : ∀ k, F k → ¬ G k
  nF : ¬ F wb
  nG : ¬ G wb
  pF : ∀ k, F k → w.heap.size ≤ k
  pG : ∀ k, G k → w.heap.size ≤ k
  pb : w.heap.size ≤ wb
  below : Below w.heap.size w W
/-- from a state of the world -/
theorem WSt.toWX {w W : World} {wb bd bx n : Nat} {o : Option (Bool × TV)} {d : DV} {F G : Nat → Prop} (h : WSt W wb bd bx n o d F G) (hB : Below w.heap.size w W) (hF : ∀ k, F k → w.heap.size ≤ k) (hG : ∀ k, G k → w.heap.size ≤ k) (hb : w.heap.size ≤ wb) :
    ∃ pj pk, WX w W wb bd bx n pj pk o d o d F G := by
  rcases o with _ | ⟨br, t⟩
  · exact ⟨_, _, h.cell, .inl ⟨rfl, rfl, h.kd⟩, .inl ⟨rfl, rfl, h.kr⟩, h.ap, h.nF, h.nG, hF, hG, hb, hB⟩
  · obtain ⟨jb, kb, h1, h2, h3, h4, h5, h6⟩ := h
    exact ⟨_, _, h1, .inr ⟨jb, br, t, rfl, rfl, h2⟩, .inr ⟨kb, br, t, rfl, rfl, h3⟩, h4, h5, h6, hF, hG, hb, hB⟩
section
variable {w W W' : World} {wb bd bx n : Nat} {pj pk : Value} {o p : Option (Bool × TV)} {d e : DV} {F G : Nat → Prop}
theorem WX.keep (h : WX w W wb bd bx n pj pk o d p e F G) (hB : Below W.heap.size W W') : WX w W' wb bd bx n pj pk o d p e F G :=
  have hU : Upd (fun _ => False) W W' := Upd.of_below hB
  ⟨hU.at h.cell (fun f => f), h.kj.upd hU (fun _ _ f => f), h.kr.upd hU (fun _ _ f => f), h.ap, h.nF, h.nG, h.pF, h.pG, h.pb, h.below.trans (hB.mono h.below.size)⟩
theorem WX.drew (h : WX w W wb bd bx n pj pk o d p e F G) : WX w W.drew wb bd bx n pj pk o d p e F G := h.keep (Below.refl _ _).drew
theorem WX.jmove (h : WX w W wb bd bx n pj pk o d p e F G) {o' : Option (Bool × TV)} {d' : DV} {F' : Nat → Prop} (hj : JOn W' bd n pj o' d' F') (hM : Moves F F' W W') : WX w W' wb bd bx n pj pk o' d' p e F' G := by
  have hwb := ltOf h.cell
  obtain ⟨h1, h2⟩ := hM.base h.pF h.below.size
  refine ⟨hM.1.at h.cell h.nF, hj, h.kr.upd hM.1 (fun k g f => h.ap k f g), fun k f g => ?_, fun f => ?_, h.nG, h1, h.pG, h.pb, h.below.trans h2⟩
  · rcases hM.2 k f with x | x
    · exact h.ap k x g
    · have := h.kr.lt g; omega
  · rcases hM.2 wb f with x | x
    · exact h.nF x
    · omega
theorem WX.rmove (h : WX w W wb bd bx n pj pk o d p e F G) {p' : Option (Bool × TV)} {e' : DV} {G' : Nat → Prop} (hr : ROn W' bx n pk p' e' G') (hM : Moves G G' W W') : WX w W' wb bd bx n pj pk o d p' e' F G' := by
  have hwb := ltOf h.cell
  obtain ⟨h1, h2⟩ := hM.base h.pG h.below.size
  refine ⟨hM.1.at h.cell h.nG, h.kj.upd hM.1 (fun k f g => h.ap k f g), hr, fun k f g => ?_, h.nF, fun g => ?_, h.pF, h1, h.pb, h.below.trans h2⟩
  · rcases hM.2 k g with x | x
    · exact h.ap k f x
    · have := h.kj.lt f; omega
  · rcases hM.2 wb g with x | x
    · exact h.nG x
    · omega
theorem WX.jCut (h : WX w W wb bd bx n pj pk o d p e F G) (x : Int) (hx0 : 0 ≤ x) (hx1 : x ≤ 9223372036854775807) :
    Calls Tryz.prog 46 #[.pointer (some ⟨bd, 0, none⟩), .int .i64 x] W fun r w' => r = .returned (.int .i64 (ccode d x)) ∧ ∃ F', WX w w' wb bd bx n pj pk o (cres d x) p e F' G ∧ Moves F F' W w' := by
  obtain ⟨F0, hF0, _, hu⟩ := h.kj.disk
  unfold ccode cres
  cases ho : d.off with
  | true =>
    refine (cutF_off hF0 ho x).mono ?_
    rintro r w' ⟨rfl, rfl⟩
    exact ⟨rfl, F, h, Moves.refl _ _⟩
  | false =>
    simp only [if_neg (show ¬ x < 0 by omega)]
    refine (cutF hF0 ho x hx0 hx1).mono ?_
    rintro r w' ⟨rfl, F1, k, m⟩
    obtain ⟨F', a, b⟩ := hu k m
    exact ⟨rfl, F', h.jmove a b, b⟩
theorem WX.rCut (h : WX w W wb bd bx n pj pk o d p e F G) (x : Int) (hx0 : 0 ≤ x) (hx1 : x ≤ 9223372036854775807) :
    Calls Tryz.prog 47 #[.pointer (some ⟨bx, 0, none⟩), .int .i64 x] W fun r w' => r = .returned (.int .i64 (ccode e x)) ∧ ∃ G', WX w w' wb bd bx n pj pk o d p (cres e x) F G' ∧ Moves G G' W w' := by
  obtain ⟨gs, cs, lv, h1, _, hu⟩ := h.kr.disk
  unfold ccode cres
  cases ho : e.off with
  | true =>
    refine (RefCut_off h1 ho x).mono ?_
    rintro r w' ⟨rfl, rfl⟩
    exact ⟨rfl, G, h, Moves.refl _ _⟩
  | false =>
    simp only [if_neg (show ¬ x < 0 by omega)]
    refine (RefCut_ok h1 ho x hx0 hx1).mono ?_
    rintro r w' ⟨rfl, hh⟩
    obtain ⟨G', a, b⟩ := hu hh
    exact ⟨rfl, G', h.rmove a b, b⟩
theorem WX.jCrash (h : WX w W wb bd bx n pj pk o d p e F G) (keep : List Int) (ka : Option Addr) (kl kc : Nat) (hI : IntsAt W.heap.size W (.slice ka kl kc) keep) (hk : keep.length ≤ 100000000) (hm : d.pe.length ≤ 1000000) (torn : Int) (ht0 : -9223372036854775808 ≤ torn) (ht1 : torn ≤ 9223372036854775807) :
    Calls Tryz.prog 48 #[.pointer (some ⟨bd, 0, none⟩), .slice ka kl kc, .int .i64 torn] W fun r w' => r = .returned (.int .i64 0) ∧ ∃ F', WX w w' wb bd bx n pj pk o (crashed d keep torn) p e F' G ∧ Moves F F' W w' := by
  obtain ⟨F0, hF0, _, hu⟩ := h.kj.disk
  refine (crashF hF0 keep ka kl kc hI hk (by omega) torn ht0 ht1).mono ?_
  rintro r w' ⟨rfl, F1, k, m⟩
  obtain ⟨F', a, b⟩ := hu k m
  exact ⟨rfl, F', h.jmove a b, b⟩
theorem WX.rCrash (h : WX w W wb bd bx n pj pk o d p e F G) (keep : List Int) (ka : Option Addr) (kl kc : Nat) (hI : IntsAt W.heap.size W (.slice ka kl kc) keep) (hk : keep.length ≤ 100000000) (hm : e.pe.length ≤ 1000000) (torn : Int) (ht0 : -9223372036854775808 ≤ torn) (ht1 : torn ≤ 9223372036854775807) :
    Calls Tryz.prog 49 #[.pointer (some ⟨bx, 0, none⟩), .slice ka kl kc, .int .i64 torn] W fun r w' => r = .returned (.tuple #[]) ∧ ∃ G', WX w w' wb bd bx n pj pk o d p (crashed e keep torn) F G' ∧ Moves G G' W w' := by
  obtain ⟨gs, cs, lv, h1, _, hu⟩ := h.kr.disk
  refine (RefCrash_any h1 keep ka kl kc hI hk hm torn ht0 ht1).mono ?_
  rintro r w' ⟨rfl, hh⟩
  obtain ⟨G', a, b⟩ := hu hh
  exact ⟨rfl, G', h.rmove a b, b⟩
theorem WX.jPending (h : WX w W wb bd bx n pj pk o d p e F G) :
    Calls Tryz.prog 22 #[.pointer (some ⟨bd, 0, none⟩)] W fun r w' => r = .returned (.int .i64 d.pe.length) ∧ W = w' := by
  obtain ⟨F0, hF0, _, _⟩ := h.kj.disk
  exact pendingF hF0
theorem WX.jContent (h : WX w W wb bd bx n pj pk o d p e F G) (ho : d.off = false) :
    Calls Tryz.prog 19 #[.pointer (some ⟨bd, 0, none⟩)] W fun r w' => r = .returned (.string (diskB d)) ∧ W = w' := by
  obtain ⟨F0, hF0, _, _⟩ := h.kj.disk
  exact content_any hF0 ho
theorem WX.rVisible (h : WX w W wb bd bx n pj pk o d p e F G) :
    Calls Tryz.prog 20 #[.pointer (some ⟨bx, 0, none⟩)] W fun r w' => ∃ g cap, r = .returned (.slice (some ⟨g, 0, none⟩) n cap) ∧ BufAt w' g n cap e.vi ∧ Below W.heap.size W w' := by
  obtain ⟨gs, cs, lv, h1, _, _⟩ := h.kr.disk
  refine (Visible_any h1).mono ?_
  rintro r w' ⟨g, cap, rfl, _, hb, hB⟩
  exact ⟨g, cap, rfl, hb, hB⟩
/-- the cells of the reference's disk: what is pending, is the power off -/
theorem WX.rCells (h : WX w W wb bd bx n pj pk o d p e F G) : ∃ A c, W.cell? ⟨bx, 1, none⟩ = some (.slice A e.pe.length c) ∧ W.cell? ⟨bx, 2, none⟩ = some (.bool e.off) ∧ bx < W.heap.size := by
  obtain ⟨gs, cs, lv, h1, _, _⟩ := h.kr.disk
  obtain ⟨A, c, hlv⟩ := change_form h1.hl
  exact ⟨A, c, by rw [cellOf h1.hd 1, ← hlv]; rfl, cellOf h1.hd 2, ltOf h1.hd⟩
theorem WX.facts (h : WX w W wb bd bx n pj pk o d p e F G) : d.vi.length = n ∧ n ≤ 4194304 := by
  obtain ⟨F0, hF0, _, _⟩ := h.kj.disk
  exact ⟨hF0.size_pos.2.2.1, hF0.size_pos.2.1⟩
theorem WX.c0 (h : WX w W wb bd bx n pj pk o d p e F G) : W.cell? ⟨wb, 0, none⟩ = some (.pointer (some ⟨bd, 0, none⟩)) := cellOf h.cell 0
theorem WX.c1 (h : WX w W wb bd bx n pj pk o d p e F G) : W.cell? ⟨wb, 1, none⟩ = some pj := cellOf h.cell 1
theorem WX.c2 (h : WX w W wb bd bx n pj pk o d p e F G) : W.cell? ⟨wb, 2, none⟩ = some (.pointer (some ⟨bx, 0, none⟩)) := cellOf h.cell 2
theorem WX.c3 (h : WX w W wb bd bx n pj pk o d p e F G) : W.cell? ⟨wb, 3, none⟩ = some pk := cellOf h.cell 3
/-- with both journals there -/
theorem WX.toWJ {br bk : Bool} {t u : TV} (h : WX w W wb bd bx n pj pk (some (br, t)) d (some (bk, u)) e F G) : ∃ jb kb, pj = .pointer (some ⟨jb, 0, none⟩) ∧ pk = .pointer (some ⟨kb, 0, none⟩) ∧ WJ w W wb bd bx jb kb n br t d bk u e F G := by
  obtain ⟨c, j, r, a1, a2, a3, a4, a5, a6, a7⟩ := h
  rcases j with ⟨e1, _⟩ | ⟨jb, br', t', e1, rfl, hj⟩
  · cases e1
  rcases r with ⟨e2, _⟩ | ⟨kb, bk', u', e2, rfl, hr⟩
  · cases e2
  cases e1
  cases e2
  exact ⟨jb, kb, rfl, rfl, c, hj, hr, a1, a2, a3, a4, a5, a6, a7⟩
theorem WJ.toWX {jb kb : Nat} {br bk : Bool} {t u : TV} (h : WJ w W wb bd bx jb kb n br t d bk u e F G) : WX w W wb bd bx n (.pointer (some ⟨jb, 0, none⟩)) (.pointer (some ⟨kb, 0, none⟩)) (some (br, t)) d (some (bk, u)) e F G :=
  ⟨h.cell, .inr ⟨jb, br, t, rfl, rfl, h.kj⟩, .inr ⟨kb, bk, u, rfl, rfl, h.kr⟩, h.ap, h.nF, h.nG, h.pF, h.pG, h.pb, h.below⟩
theorem WX.nil (h : WX w W wb bd bx n pj pk none d p e F G) : pj = .pointer none := by
  rcases h.kj with ⟨_, e, _⟩ | ⟨_, _, _, e, _⟩
  · exact e
  · cases e
/-- the two disks, when the journals are let go -/
theorem WX.toW0 (h : WX w W wb bd bx n pj pk o d p d F G) : ∃ F' G', W0 W wb bd bx n pj pk d F' G' ∧ (∀ k, F' k → F k) ∧ ∀ k, G' k → G k := by
  obtain ⟨F0, hF0, hs, _⟩ := h.kj.disk
  obtain ⟨gs, cs, lv, h1, hg, _⟩ := h.kr.disk
  exact ⟨F0, _, ⟨h.cell, hF0, ⟨gs, cs, lv, h1, fun _ => Iff.rfl⟩, fun k f g => h.ap k (hs k f) (hg k g), fun f => h.nF (hs _ f), fun g => h.nG (hg _ g)⟩, hs, hg⟩
/-- opened anew -/
theorem WX.opened (h : WX w W wb bd bx n pj pk o d p d F G) {F0 G0 : Nat → Prop} (hF0 : ∀ k, F0 k → F k) (hG0 : ∀ k, G0 k → G k) {o' : Option (Bool × TV)} {d' : DV} {F' G' : Nat → Prop} (hS : WSt W' wb bd bx n o' d' F' G') (hM : WMoves wb F0 G0 F' G' W W') :
    ∃ pj' pk', WX w W' wb bd bx n pj' pk' o' d' o' d' F' G' := by
  obtain ⟨m1, m2, m3⟩ := hM
  have hs := h.below.size
  have hB : Below w.heap.size W W' := m1.below' hs (fun i hi x => x.elim (fun e => by have := h.pb; omega) (fun x => x.elim (fun f => by have := h.pF i (hF0 i f); omega) (fun g => by have := h.pG i (hG0 i g); omega)))
  exact hS.toWX (h.below.trans hB) (fun k hk => (m2 k hk).elim (fun f => h.pF k (hF0 k f)) (fun x => by omega)) (fun k hk => (m3 k hk).elim (fun f => h.pG k (hG0 k f)) (fun x => by omega)) h.pb
/-- opening: the worlds contract, with what follows -/
theorem WX.openW (h : WX w W wb bd bx n pj pk o d p d F G) (hn : n ≤ 800000) (hR : RoundLaid w) (a : Addr) (hD : DamLaid a w) (hpe : d.pe.length ≤ 100000) :
    Calls Tryz.prog 14 #[.pointer (some ⟨wb, 0, none⟩)] W fun r w' => r = .returned (.bool true) ∧ ∃ pj' pk' F' G', WX w w' wb bd bx n pj' pk' ((openJ n d).2.1.map (Prod.mk false)) (openJ n d).2.2 ((openJ n d).2.1.map (Prod.mk false)) (openJ n d).2.2 F' G' := by
  obtain ⟨F0, G0, h0, f0, g0⟩ := h.toW0
  refine (WOpen_any h0 hn (hR.below h.below) a (hD.upd (Upd.of_below (S := fun _ => False) h.below) (fun h => h)) hpe).mono ?_
  rintro r w' ⟨rfl, F', G', hS, hM⟩
  obtain ⟨pj', pk', hx⟩ := h.opened f0 g0 hS hM
  exact ⟨rfl, pj', pk', F', G', hx⟩
end
end Go.Proofs.YthlmgookaljgnaaGreatDoor
