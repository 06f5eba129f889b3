/- law26: both journals and the world's block side by side: what the calls of the laws do. -/
import Derived.Test.YthlmgookaljgnaaGreatDoorWBegin
namespace Go.Proofs.YthlmgookaljgnaaGreatDoor
open Go.RowKit Go.Shelf
set_option linter.unusedVariables false
set_option linter.unusedSimpArgs false

/-- Both journals in W, each with its own state, apart from each other and from the block wb; all of it behind w. -/
structure WJ (w W : World) (wb bd bx jb kb n : Nat) (br : Bool) (t : TV) (d : DV) (bk : Bool) (u : TV) (e : DV) (F G : Nat → Prop) : Prop where
  cell : W.heap[wb]? = some (.cells #[.pointer (some ⟨bd, 0, none⟩), .pointer (some ⟨jb, 0, none⟩), .pointer (some ⟨bx, 0, none⟩), .pointer (some ⟨kb, 0, none⟩)] 32 (0, 0))
  kj : JG W jb bd n br t d F
  kr : RG W kb bx n bk u e G
  ap : ∀ k, F k → ¬ G k
  nF : ¬ F wb
  nG : ¬ G wb
  pF : ∀ k, F k → w.heap.size ≤ k
  pG : ∀ k, G k → w.heap.size ≤ k
  pb : w.heap.size ≤ wb
  below : Below w.heap.size w W
theorem RG.lt {w : World} {jb bx n : Nat} {br : Bool} {t : TV} {d : DV} {H : Nat → Prop} (h : RG w jb bx n br t d H) {k : Nat} (hk : H k) : k < w.heap.size := by
  obtain ⟨lv, gs, cs, lv0, hj, hr, a, b, c⟩ := h
  rcases (c k).1 hk with e | e | e
  · rw [e]; exact ltOf hj.cells
  · exact (hj.ne e).2
  · exact hr.foot_lt e
section
variable {w W W' : World} {wb bd bx jb kb n : Nat} {br bk : Bool} {t u : TV} {d e : DV} {F G : Nat → Prop}
theorem WJ.keep (h : WJ w W wb bd bx jb kb n br t d bk u e F G) (hB : Below W.heap.size W W') : WJ w W' wb bd bx jb kb n br t d bk u e F G :=
  have hU : Upd (fun _ => False) W W' := Upd.of_below hB
  ⟨hU.at h.cell (fun f => f), h.kj.upd hU (fun _ _ f => f), h.kr.upd hU (fun _ _ f => f), h.ap, h.nF, h.nG, h.pF, h.pG, h.pb, h.below.trans (hB.mono h.below.size)⟩
theorem WJ.drew (h : WJ w W wb bd bx jb kb n br t d bk u e F G) : WJ w W.drew wb bd bx jb kb n br t d bk u e F G := h.keep (Below.refl _ _).drew
theorem WJ.jmove (h : WJ w W wb bd bx jb kb n br t d bk u e F G) {br' : Bool} {t' : TV} {d' : DV} {F' : Nat → Prop} (hj : JG W' jb bd n br' t' d' F') (hM : Moves F F' W W') : WJ w W' wb bd bx jb kb n br' t' d' bk u e F' G := by
  have hwb := ltOf h.cell
  obtain ⟨h1, h2⟩ := hM.base h.pF h.below.size
  refine ⟨hM.1.at h.cell h.nF, hj, h.kr.upd hM.1 (fun k g f => h.ap k f g), fun k f g => ?_, fun f => ?_, h.nG, h1, h.pG, h.pb, h.below.trans h2⟩
  · rcases hM.2 k f with x | x
    · exact h.ap k x g
    · have := h.kr.lt g; omega
  · rcases hM.2 wb f with x | x
    · exact h.nF x
    · omega
theorem WJ.rmove (h : WJ w W wb bd bx jb kb n br t d bk u e F G) {bk' : Bool} {u' : TV} {e' : DV} {G' : Nat → Prop} (hr : RG W' kb bx n bk' u' e' G') (hM : Moves G G' W W') : WJ w W' wb bd bx jb kb n br t d bk' u' e' F G' := by
  have hwb := ltOf h.cell
  obtain ⟨h1, h2⟩ := hM.base h.pG h.below.size
  refine ⟨hM.1.at h.cell h.nG, h.kj.upd hM.1 (fun k f g => h.ap k f g), hr, fun k f g => ?_, h.nF, fun g => ?_, h.pF, h1, h.pb, h.below.trans h2⟩
  · rcases hM.2 k g with x | x
    · exact h.ap k f x
    · have := h.kj.lt f; omega
  · rcases hM.2 wb g with x | x
    · exact h.nG x
    · omega
theorem WJ.jAppend (h : WJ w W wb bd bx jb kb n br t d bk u e F G) (hR : RoundLaid w) (hn : n ≤ 800000) (sv : Value) (g : List ByteArray) (hsl : SL W sv g) (hl : g.length ≤ 100) (hs : ∀ r ∈ g, r.size ≤ 1000000) (hpe : d.pe.length ≤ 100000) :
    Calls Tryz.prog 7 #[.pointer (some ⟨jb, 0, none⟩), sv] W fun r w' => r = .returned (.int .i64 (appJ n br t d g).1) ∧ ∃ F', WJ w w' wb bd bx jb kb n (appJ n br t d g).2.1 (appJ n br t d g).2.2.1 (appJ n br t d g).2.2.2 bk u e F' G ∧ Moves F F' W w' := by
  have hRW := hR.below h.below
  refine (Append_any h.kj hn hRW sv g hsl hl hs hpe (round_lt hRW)).mono ?_
  rintro r w' ⟨rfl, F', hj, hM⟩
  exact ⟨rfl, F', h.jmove hj hM, hM⟩
theorem WJ.rAppend (h : WJ w W wb bd bx jb kb n br t d bk u e F G) (hrs : ∀ r ∈ u.recs, r.size ≤ 65536) (hrl : u.recs.length ≤ 100000) (hz : u.size ≤ n) (hn : n ≤ 800000) (sv : Value) (g : List ByteArray) (hsv : RowK W sv g G) (hl : g.length ≤ 100) (hs : ∀ r ∈ g, r.size ≤ 1000000) (hpe : e.pe.length ≤ 100000) :
    Calls Tryz.prog 9 #[.pointer (some ⟨kb, 0, none⟩), sv] W fun r w' => r = .returned (.int .i64 (appJ n bk u e g).1) ∧ ∃ G', WJ w w' wb bd bx jb kb n br t d (appJ n bk u e g).2.1 (appJ n bk u e g).2.2.1 (appJ n bk u e g).2.2.2 F G' ∧ Moves G G' W w' := by
  refine (RAppend_any h.kr hrs hrl hn hz hpe sv g hsv hl hs).mono ?_
  rintro r w' ⟨rfl, G', hr, hM⟩
  exact ⟨rfl, G', h.rmove hr hM, hM⟩
theorem WJ.rRoom (h : WJ w W wb bd bx jb kb n br t d bk u e F G) (hz : u.size ≤ n) :
    Calls Tryz.prog 18 #[.pointer (some ⟨kb, 0, none⟩)] W fun r w' => r = .returned (.int .i64 ((n - u.size : Nat) : Int)) ∧ WJ w w' wb bd bx jb kb n br t d bk u e F G := by
  obtain ⟨lv, gs, cs, lv0, hj, hr, a, b, c⟩ := h.kr
  refine (RRoom_any hj hr hz).mono ?_
  rintro r w' ⟨rfl, hB⟩
  exact ⟨by rw [Int.ofNat_sub hz], h.keep hB⟩
theorem WJ.jRoom (h : WJ w W wb bd bx jb kb n br t d bk u e F G) :
    Calls Tryz.prog 17 #[.pointer (some ⟨jb, 0, none⟩)] W fun r w' => r = .returned (.int .i64 ((n - t.size : Nat) : Int)) ∧ WJ w w' wb bd bx jb kb n br t d bk u e F G := by
  refine (RoomG h.kj).mono ?_
  rintro r w' ⟨rfl, hB⟩
  exact ⟨rfl, h.keep hB⟩
theorem WJ.jRecords (h : WJ w W wb bd bx jb kb n br t d bk u e F G) :
    Calls Tryz.prog 16 #[.pointer (some ⟨jb, 0, none⟩)] W fun r w' => ∃ v, r = .returned v ∧ w'.ownsRow W.heap.size 9 1 v t.recs.length (strV t.recs) ∧ Below W.heap.size W w' ∧ WJ w w' wb bd bx jb kb n br t d bk u e F G := by
  refine (RecordsG h.kj).mono ?_
  rintro r w' ⟨v, rfl, hO, hB⟩
  exact ⟨v, rfl, hO, hB, h.keep hB⟩
/-- the reference's records: the journal's cell, and the row in it -/
theorem WJ.rL (h : WJ w W wb bd bx jb kb n br t d bk u e F G) : ∃ lv, W.cell? ⟨kb, 1, none⟩ = some lv ∧ SL W lv u.recs := by
  obtain ⟨lv, gs, cs, lv0, hj, hr, a, b, c⟩ := h.kr
  exact ⟨lv, cellOf hj.cells 1, SL_own hj.row⟩
/-- a write past the journals, on both disks in turn -/
theorem WJ.jWrite (h : WJ w W wb bd bx jb kb n br t d bk u e F G) (ho : d.off = false) (p : Nat) (s : ByteArray) (hs : p + s.size ≤ n) (hl : d.pe.length ≤ 1000000) :
    Calls Tryz.prog 10 #[.pointer (some ⟨bd, 0, none⟩), .int .i64 (p : Int), .string s] W fun r w' => r = .returned (.int .i64 0) ∧ ∃ F', WJ w w' wb bd bx jb kb n br t (writeD d p s) bk u e F' G := by
  obtain ⟨F0, hF0, _, _⟩ := h.kj.disk
  refine (writeF hF0 ho p s hs hl).mono ?_
  rintro r w' ⟨rfl, F1, hk, hM⟩
  obtain ⟨F', hj, hm⟩ := h.kj.moved hF0 hk hM
  exact ⟨rfl, F', h.jmove hj hm⟩
theorem WJ.rWrite (h : WJ w W wb bd bx jb kb n br t d bk u e F G) (ho : e.off = false) (p : Nat) (s : ByteArray) (hs : p + s.size ≤ n) (hl : e.pe.length ≤ 1000000) :
    Calls Tryz.prog 13 #[.pointer (some ⟨bx, 0, none⟩), .int .i64 (p : Int), .string s] W fun r w' => r = .returned (.int .i64 0) ∧ ∃ G', WJ w w' wb bd bx jb kb n br t d bk u (writeD e p s) F G' := by
  obtain ⟨lv, gs, cs, lv0, hj, hr, a, b, c⟩ := h.kr
  have hA : RAt W W kb bx n gs cs gs cs lv lv0 lv0 bk u e := ⟨hj, hr, a, b, Moves.refl _ _⟩
  refine (hA.write ho p s hs hl).mono ?_
  rintro r w' ⟨rfl, g2, c2, l2, hR⟩
  obtain ⟨G', h1, h2⟩ := hR.out c
  exact ⟨rfl, G', h.rmove h1 h2⟩
/-- the two disks, when the journals are let go -/
theorem WJ.toW0 (h : WJ w W wb bd bx jb kb n br t d bk u d F G) : ∃ F' G', W0 W wb bd bx n (.pointer (some ⟨jb, 0, none⟩)) (.pointer (some ⟨kb, 0, none⟩)) d F' G' ∧ (∀ k, F' k → F k) ∧ ∀ k, G' k → G k := by
  obtain ⟨F0, hF0, hs, _⟩ := h.kj.disk
  obtain ⟨lv, gs, cs, lv0, hj, hr, a, b, c⟩ := h.kr
  have hg : ∀ k, FootR bx gs lv0 k → G k := fun k f => (c k).2 (.inr (.inr f))
  exact ⟨F0, _, ⟨h.cell, hF0, ⟨gs, cs, lv0, hr, fun _ => Iff.rfl⟩, fun k f g => h.ap k (hs k f) (hg k g), fun f => h.nF (hs _ f), fun g => h.nG (hg _ g)⟩, hs, hg⟩
end
/-- from a state of the world to both journals -/
theorem WSt.toWJ {w W : World} {wb bd bx n : Nat} {br : Bool} {t : TV} {d : DV} {F G : Nat → Prop} (h : WSt W wb bd bx n (some (br, t)) d F G) (hB : Below w.heap.size w W) (hF : ∀ k, F k → w.heap.size ≤ k) (hG : ∀ k, G k → w.heap.size ≤ k) (hb : w.heap.size ≤ wb) :
    ∃ jb kb, WJ w W wb bd bx jb kb n br t d br t d F G := by
  obtain ⟨jb, kb, h1, h2, h3, h4, h5, h6⟩ := h
  exact ⟨jb, kb, h1, h2, h3, h4, h5, h6, hF, hG, hb, hB⟩
end Go.Proofs.YthlmgookaljgnaaGreatDoor
