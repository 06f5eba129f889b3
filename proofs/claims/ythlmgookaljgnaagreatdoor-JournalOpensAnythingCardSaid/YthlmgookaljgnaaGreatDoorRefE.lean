/- A disk and its reference side by side. -/
import Derived.Test.YthlmgookaljgnaaGreatDoorRefD
namespace Go.Proofs.YthlmgookaljgnaaGreatDoor
open Go.RowKit
set_option linter.unusedVariables false

def RefF (w : World) (bx n : Nat) (d : DV) (F : Nat → Prop) : Prop := ∃ gs cs lv, RefAt w bx gs cs lv n d ∧ ∀ k, F k ↔ FootR bx gs lv k
theorem RefF.lt {w : World} {bx n : Nat} {d : DV} {F : Nat → Prop} (h : RefF w bx n d F) {k : Nat} (hk : F k) : k < w.heap.size := by
  obtain ⟨gs, cs, lv, h1, h2⟩ := h
  exact h1.foot_lt ((h2 k).1 hk)
theorem RefF.upd {w w' : World} {bx n : Nat} {d : DV} {F S : Nat → Prop} (h : RefF w bx n d F) (hU : Upd S w w') (hS : ∀ k, F k → ¬ S k) : RefF w' bx n d F := by
  obtain ⟨gs, cs, lv, h1, h2⟩ := h
  exact ⟨gs, cs, lv, h1.upd hU (fun k hf => hS k ((h2 k).2 hf)), h2⟩
theorem RefF.of {w w' : World} {bx n gs : Nat} {lv : Value} {d' : DV} {F : Nat → Prop} (h2 : ∀ k, F k ↔ FootR bx gs lv k) (h : ∃ gs' cs' lv', RefAt w' bx gs' cs' lv' n d' ∧ Moves (FootR bx gs lv) (FootR bx gs' lv') w w') : ∃ F', RefF w' bx n d' F' ∧ Moves F F' w w' := by
  obtain ⟨gs', cs', lv', h, m⟩ := h
  exact ⟨_, ⟨gs', cs', lv', h, fun _ => Iff.rfl⟩, m.1.mono (fun i _ e => (h2 i).2 e), fun k e => (m.2 k e).imp_left (h2 k).2⟩

/-- Both, apart. -/
structure RR (w wr : World) (bd bx n : Nat) (d e : DV) (F G : Nat → Prop) : Prop where
  kd : DiskF wr bd n d F
  kr : RefF wr bx n e G
  ap : ∀ i, F i → ¬ G i
  pF : ∀ i, F i → w.heap.size ≤ i
  pG : ∀ i, G i → w.heap.size ≤ i
  below : Below w.heap.size w wr
section
variable {w wr wr' : World} {bd bx n : Nat} {d e : DV} {F G : Nat → Prop}
theorem RR.keep (h : RR w wr bd bx n d e F G) (hB : Below wr.heap.size wr wr') : RR w wr' bd bx n d e F G :=
  have hU : Upd (fun _ => False) wr wr' := Upd.of_below hB
  ⟨h.kd.upd hU (fun _ _ f => f), h.kr.upd hU (fun _ _ f => f), h.ap, h.pF, h.pG, h.below.trans (hB.mono h.below.size)⟩
theorem RR.drew (h : RR w wr bd bx n d e F G) : RR w wr.drew bd bx n d e F G := h.keep (Below.refl _ wr).drew
theorem RR.disk (h : RR w wr bd bx n d e F G) {d' : DV} {F' : Nat → Prop} (hk : DiskF wr' bd n d' F') (hM : Moves F F' wr wr') : RR w wr' bd bx n d' e F' G := by
  obtain ⟨h1, h2⟩ := hM.base h.pF h.below.size
  refine ⟨hk, h.kr.upd hM.1 (fun i a b => h.ap i b a), fun i a b => ?_, h1, h.pG, h.below.trans h2⟩
  rcases hM.2 i a with x | x
  · exact h.ap i x b
  · have := h.kr.lt b; omega
theorem RR.ref (h : RR w wr bd bx n d e F G) {e' : DV} {G' : Nat → Prop} (hk : RefF wr' bx n e' G') (hM : Moves G G' wr wr') : RR w wr' bd bx n d e' F G' := by
  obtain ⟨h1, h2⟩ := hM.base h.pG h.below.size
  refine ⟨h.kd.upd hM.1 (fun i a b => h.ap i a b), hk, fun i a b => ?_, h.pF, h1, h.below.trans h2⟩
  rcases hM.2 i b with x | x
  · exact h.ap i a x
  · have := h.kd.lt a; omega
end

def wcode (n : Nat) (d : DV) (x : Int) (s : ByteArray) : Int := if d.off then 251 else if 0 ≤ x ∧ x + s.size ≤ n then 0 else 250
def wres (n : Nat) (d : DV) (x : Int) (s : ByteArray) : DV := if d.off then d else if 0 ≤ x ∧ x + s.size ≤ n then writeD d x.toNat s else d
def scode (d : DV) : Int := if d.off then 251 else 0
def sres (d : DV) : DV := if d.off then d else syncD d
def ccode (d : DV) (x : Int) : Int := if d.off then 251 else if x < 0 then 2 else 0
def cres (d : DV) (x : Int) : DV := if d.off then d else if x < 0 then d else cutD d x
def rcode (n : Nat) (d : DV) (x m : Int) : Int := if d.off then 251 else if 0 ≤ x ∧ 0 ≤ m ∧ x ≤ n ∧ m ≤ n - x then 0 else 250
def rstr (n : Nat) (d : DV) (x m : Int) : ByteArray := if d.off then ⟨#[]⟩ else if 0 ≤ x ∧ 0 ≤ m ∧ x ≤ n ∧ m ≤ n - x then ⟨((d.vi.drop x.toNat).take m.toNat).toArray⟩ else ⟨#[]⟩

/-- a block that is not the moving one's stays -/
theorem stay {F F' : Nat → Prop} {w w' : World} (hM : Moves F F' w w') {B : Nat} {o : Obj} (hx : w.heap[B]? = some o) (nB : ¬ F B) : w'.heap[B]? = some o ∧ ¬ F' B := by
  refine ⟨hM.1.at hx nB, fun f => ?_⟩
  rcases hM.2 _ f with f | f
  · exact nB f
  · have := ltOf hx; omega

section
variable {w wr : World} {bd bx n : Nat} {d e : DV} {F G : Nat → Prop} {B : Nat} {o : Obj}
theorem RR.dWrite (h : RR w wr bd bx n d e F G) (x : Int) (s : ByteArray) (hs : s.size ≤ 9223372036854775807) (hx0 : -9223372036854775808 ≤ x) (hl : d.pe.length ≤ 1000000) (hx : wr.heap[B]? = some o) (nB : ¬ F B) (nG : ¬ G B) :
    Calls Tryz.prog 10 #[.pointer (some ⟨bd, 0, none⟩), .int .i64 x, .string s] wr fun r w' => r = .returned (.int .i64 (wcode n d x s)) ∧ ∃ F', RR w w' bd bx n (wres n d x s) e F' G ∧ w'.heap[B]? = some o ∧ ¬ F' B ∧ ¬ G B := by
  unfold wcode wres
  cases ho : d.off with
  | true =>
    refine (writeF_off h.kd ho x s).mono ?_
    rintro r w' ⟨rfl, rfl⟩
    exact ⟨rfl, F, h, hx, nB, nG⟩
  | false =>
    by_cases hr : 0 ≤ x ∧ x + s.size ≤ n
    · simp only [if_pos hr]
      obtain ⟨p, rfl⟩ : ∃ p : Nat, x = p := Int.eq_ofNat_of_zero_le hr.1
      refine (writeF h.kd ho p s (by omega) hl).mono ?_
      rintro r w' ⟨rfl, F', k, m⟩
      obtain ⟨a, b⟩ := stay m hx nB
      exact ⟨rfl, F', h.disk k m, a, b, nG⟩
    · simp only [if_neg hr]
      refine (writeF_out h.kd ho x s hs hx0 hr).mono ?_
      rintro r w' ⟨rfl, rfl⟩
      exact ⟨rfl, F, h, hx, nB, nG⟩
theorem RR.rWrite (h : RR w wr bd bx n d e F G) (x : Int) (s : ByteArray) (hs : s.size ≤ 9223372036854775807) (hx0 : -9223372036854775808 ≤ x) (hx1 : x ≤ 9223372036854775807) (hl : e.pe.length ≤ 1000000) :
    Calls Tryz.prog 13 #[.pointer (some ⟨bx, 0, none⟩), .int .i64 x, .string s] wr fun r w' => r = .returned (.int .i64 (wcode n e x s)) ∧ ∃ G', RR w w' bd bx n d (wres n e x s) F G' ∧ Moves G G' wr w' := by
  obtain ⟨gs, cs, lv, h1, h2⟩ := h.kr
  unfold wcode wres
  cases ho : e.off with
  | true =>
    refine (RefWrite_off h1 ho x s).mono ?_
    rintro r w' ⟨rfl, rfl⟩
    exact ⟨rfl, G, h, Moves.refl _ _⟩
  | false =>
    by_cases hr : 0 ≤ x ∧ x + s.size ≤ n
    · simp only [if_pos hr]
      obtain ⟨p, rfl⟩ : ∃ p : Nat, x = p := Int.eq_ofNat_of_zero_le hr.1
      refine (RefWrite_ok h1 ho p s (by omega) hl).mono ?_
      rintro r w' ⟨rfl, hh⟩
      obtain ⟨G', k, m⟩ := RefF.of h2 hh
      exact ⟨rfl, G', h.ref k m, m⟩
    · simp only [if_neg hr]
      refine (RefWrite_out h1 ho x s hs hx0 hx1 hr).mono ?_
      rintro r w' ⟨rfl, rfl⟩
      exact ⟨rfl, G, h, Moves.refl _ _⟩
theorem RR.dSync (h : RR w wr bd bx n d e F G) :
    Calls Tryz.prog 34 #[.pointer (some ⟨bd, 0, none⟩)] wr fun r w' => r = .returned (.int .i64 (scode d)) ∧ ∃ F', RR w w' bd bx n (sres d) e F' G := by
  unfold scode sres
  cases ho : d.off with
  | true =>
    refine (syncF_off h.kd ho).mono ?_
    rintro r w' ⟨rfl, rfl⟩
    exact ⟨rfl, F, h⟩
  | false =>
    refine (syncF h.kd ho).mono ?_
    rintro r w' ⟨rfl, F', k, m⟩
    exact ⟨rfl, F', h.disk k m⟩
theorem RR.rSync (h : RR w wr bd bx n d e F G) :
    Calls Tryz.prog 37 #[.pointer (some ⟨bx, 0, none⟩)] wr fun r w' => r = .returned (.int .i64 (scode e)) ∧ ∃ G', RR w w' bd bx n d (sres e) F G' := by
  obtain ⟨gs, cs, lv, h1, h2⟩ := h.kr
  unfold scode sres
  cases ho : e.off with
  | true =>
    refine (RefSync_off h1 ho).mono ?_
    rintro r w' ⟨rfl, rfl⟩
    exact ⟨rfl, G, h⟩
  | false =>
    refine (RefSync_ok h1 ho).mono ?_
    rintro r w' ⟨rfl, hh⟩
    obtain ⟨G', k, m⟩ := RefF.of h2 hh
    exact ⟨rfl, G', h.ref k m⟩
theorem RR.dCut (h : RR w wr bd bx n d e F G) (x : Int) (hx1 : x ≤ 9223372036854775807) (hx : wr.heap[B]? = some o) (nB : ¬ F B) :
    Calls Tryz.prog 46 #[.pointer (some ⟨bd, 0, none⟩), .int .i64 x] wr fun r w' => r = .returned (.int .i64 (ccode d x)) ∧ ∃ F', RR w w' bd bx n (cres d x) e F' G ∧ w'.heap[B]? = some o := by
  unfold ccode cres
  cases ho : d.off with
  | true =>
    refine (cutF_off h.kd ho x).mono ?_
    rintro r w' ⟨rfl, rfl⟩
    exact ⟨rfl, F, h, hx⟩
  | false =>
    by_cases hr : x < 0
    · simp only [if_pos hr]
      refine (cutF_neg h.kd ho x hr).mono ?_
      rintro r w' ⟨rfl, rfl⟩
      exact ⟨rfl, F, h, hx⟩
    · simp only [if_neg hr]
      refine (cutF h.kd ho x (by omega) hx1).mono ?_
      rintro r w' ⟨rfl, F', k, m⟩
      exact ⟨rfl, F', h.disk k m, m.1.at hx nB⟩
theorem RR.rCut (h : RR w wr bd bx n d e F G) (x : Int) (hx1 : x ≤ 9223372036854775807) :
    Calls Tryz.prog 47 #[.pointer (some ⟨bx, 0, none⟩), .int .i64 x] wr fun r w' => r = .returned (.int .i64 (ccode e x)) ∧ ∃ G', RR w w' bd bx n d (cres e x) F G' ∧ Moves G G' wr w' := by
  obtain ⟨gs, cs, lv, h1, h2⟩ := h.kr
  unfold ccode cres
  cases ho : e.off with
  | true =>
    refine (RefCut_off h1 ho x).mono ?_
    rintro r w' ⟨rfl, rfl⟩
    exact ⟨rfl, G, h, Moves.refl _ _⟩
  | false =>
    by_cases hr : x < 0
    · simp only [if_pos hr]
      refine (RefCut_neg h1 ho x hr).mono ?_
      rintro r w' ⟨rfl, rfl⟩
      exact ⟨rfl, G, h, Moves.refl _ _⟩
    · simp only [if_neg hr]
      refine (RefCut_ok h1 ho x (by omega) hx1).mono ?_
      rintro r w' ⟨rfl, hh⟩
      obtain ⟨G', k, m⟩ := RefF.of h2 hh
      exact ⟨rfl, G', h.ref k m, m⟩
theorem RR.dRead (h : RR w wr bd bx n d e F G) (x m : Int) (hx0 : -9223372036854775808 ≤ x) (hm0 : -9223372036854775808 ≤ m) :
    Calls Tryz.prog 44 #[.pointer (some ⟨bd, 0, none⟩), .int .i64 x, .int .i64 m] wr fun r w' => r = .returned (.tuple #[.string (rstr n d x m), .int .i64 (rcode n d x m)]) ∧ wr = w' := by
  unfold rstr rcode
  cases ho : d.off with
  | true => exact readF_off h.kd ho x m
  | false =>
    by_cases hr : 0 ≤ x ∧ 0 ≤ m ∧ x ≤ n ∧ m ≤ n - x
    · simp only [if_pos hr]
      obtain ⟨p, rfl⟩ : ∃ p : Nat, x = p := Int.eq_ofNat_of_zero_le hr.1
      obtain ⟨q, rfl⟩ : ∃ q : Nat, m = q := Int.eq_ofNat_of_zero_le hr.2.1
      exact readF h.kd ho p q (by omega)
    · simp only [if_neg hr]
      exact readF_out h.kd ho x m hx0 hm0 hr
theorem RR.rRead (h : RR w wr bd bx n d e F G) (x m : Int) (hx0 : -9223372036854775808 ≤ x) (hx1 : x ≤ 9223372036854775807) (hm0 : -9223372036854775808 ≤ m) :
    Calls Tryz.prog 60 #[.pointer (some ⟨bx, 0, none⟩), .int .i64 x, .int .i64 m] wr fun r w' => r = .returned (.tuple #[.string (rstr n e x m), .int .i64 (rcode n e x m)]) ∧ RR w w' bd bx n d e F G := by
  obtain ⟨gs, cs, lv, h1, h2⟩ := h.kr
  unfold rstr rcode
  cases ho : e.off with
  | true =>
    refine (RefRead_off h1 ho x m).mono ?_
    rintro r w' ⟨rfl, rfl⟩
    exact ⟨rfl, h⟩
  | false =>
    by_cases hr : 0 ≤ x ∧ 0 ≤ m ∧ x ≤ n ∧ m ≤ n - x
    · simp only [if_pos hr]
      obtain ⟨p, rfl⟩ : ∃ p : Nat, x = p := Int.eq_ofNat_of_zero_le hr.1
      obtain ⟨q, rfl⟩ : ∃ q : Nat, m = q := Int.eq_ofNat_of_zero_le hr.2.1
      refine (RefRead_ok h1 ho p q (by omega)).mono ?_
      rintro r w' ⟨rfl, hb⟩
      exact ⟨rfl, h.keep hb⟩
    · simp only [if_neg hr]
      refine (RefRead_out h1 ho x m hx0 hx1 hm0 hr).mono ?_
      rintro r w' ⟨rfl, rfl⟩
      exact ⟨rfl, h⟩
theorem RR.rCrash (h : RR w wr bd bx n d e F G) (keep : List Int) (ka : Option Addr) (kl kc : Nat) (hI : IntsAt wr.heap.size wr (.slice ka kl kc) keep) (hk : keep.length ≤ 100000000) (hm : e.pe.length ≤ 1000000) (torn : Int) (ht0 : -9223372036854775808 ≤ torn) (ht1 : torn ≤ 9223372036854775807) :
    Calls Tryz.prog 49 #[.pointer (some ⟨bx, 0, none⟩), .slice ka kl kc, .int .i64 torn] wr fun r w' => r = .returned (.tuple #[]) ∧ ∃ G', RR w w' bd bx n d (crashed e keep torn) F G' ∧ Moves G G' wr w' := by
  obtain ⟨gs, cs, lv, h1, h2⟩ := h.kr
  refine (RefCrash_any h1 keep ka kl kc hI hk hm torn ht0 ht1).mono ?_
  rintro r w' ⟨rfl, hh⟩
  obtain ⟨G', k, m⟩ := RefF.of h2 hh
  exact ⟨rfl, G', h.ref k m, m⟩
theorem RR.dCrash (h : RR w wr bd bx n d e F G) (keep : List Int) (ka : Option Addr) (kl kc : Nat) (hI : IntsAt wr.heap.size wr (.slice ka kl kc) keep) (hk : keep.length ≤ 100000000) (hm : d.pe.length ≤ 1000000) (torn : Int) (ht0 : -9223372036854775808 ≤ torn) (ht1 : torn ≤ 9223372036854775807) :
    Calls Tryz.prog 48 #[.pointer (some ⟨bd, 0, none⟩), .slice ka kl kc, .int .i64 torn] wr fun r w' => r = .returned (.int .i64 0) ∧ ∃ F', RR w w' bd bx n (crashed d keep torn) e F' G := by
  refine (crashF h.kd keep ka kl kc hI hk (by omega) torn ht0 ht1).mono ?_
  rintro r w' ⟨rfl, F', k, m⟩
  exact ⟨rfl, F', h.disk k m⟩
end
end Go.Proofs.YthlmgookaljgnaaGreatDoor
