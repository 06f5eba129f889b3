/- The walk of JournalOpensAnything, for a byte given as a number. -/
import Derived.Test.YthlmgookaljgnaaGreatDoorLawOa
namespace Go.Proofs.YthlmgookaljgnaaGreatDoor
open Go.RowKit Go.Shelf

theorem LawOa_int (w : World) (n : Int) (hn0 : -9223372036854775808 ≤ n) (hn1 : n ≤ 9223372036854775807) (s : ByteArray) (hs9 : s.size ≤ 9223372036854775807) (sv : Value) (l : List ByteArray) (hsl : SL w sv l) (hlen : l.length ≤ 9223372036854775807) (hs : ∀ s ∈ l, s.size ≤ 9223372036854775807)
    (at' : Int) (hm0 : -9223372036854775808 ≤ at') (hm1 : at' ≤ 9223372036854775807) (c : Int) (hc0 : 0 ≤ c) (hc1 : c ≤ 255) (hR : RoundLaid w) (a : Addr) (hD : DamLaid a w) :
    Calls Tryz.prog 3 #[.int .i64 n, .string s, sv, .int .i64 at', .int .u8 c] w fun e w' => e = .returned (.bool true) ∧ Below w.heap.size w w' := by
  obtain ⟨cb, hcb⟩ : ∃ cb : UInt8, c = (cb.toNat : Int) := ⟨UInt8.ofNat c.toNat, by
    have : (UInt8.ofNat c.toNat).toNat = c.toNat % 256 := by simp
    rw [this]; omega⟩
  rw [hcb]
  exact LawOa_any w n hn0 hn1 s hs9 sv l hsl hlen hs at' hm0 hm1 cb hR a hD
end Go.Proofs.YthlmgookaljgnaaGreatDoor
