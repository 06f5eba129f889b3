/- Opening an argument that is a list of calls on a journal. -/
import Derived.Test.YthlmgookaljgnaaGreatDoorMi
namespace Go.Proofs.YthlmgookaljgnaaGreatDoor
open Go.ChangeShapes Go.WideShapes Go.ChangeAt Go.RowKit Go.Deep
set_option linter.unusedVariables false

section
variable {H : Type} {enc : TypeId × Value → H} {P : Program} {w : World} {base : Nat} {spare : Nat → Bool} {held : Bool}
theorem open_slice_fields2 {t e : TypeId} {fs : Array Field} {fuel : Nat} {cs : List Value} {x : DataW H × List MemPlace} (ht : P.underlying t = some (.slice e)) (he : P.underlying e = some (.struct fs))
    (hone : oneCellFields P fs = true) (hC : P.cellsOf e = fs.size) (h : DataW.trod enc P w base spare held fuel t cs = some x) :
    (cs = [.slice none 0 0] ∧ x = (.nil, [])) ∨
    ∃ (a : Addr) (len cap m : Nat) (D : Nat → DataW H) (Pl : Nat → List MemPlace), cs = [.slice (some a) len cap] ∧ base ≤ a.block ∧ len ≤ cap ∧ cap ≤ maxLen ∧ m = (if spare a.block then cap else len) ∧
      x = (.slice ((List.range len).map D) ((List.range (m - len)).map fun j => D (len + j)), MemPlace.row a (m * fs.size) ++ (List.range m).flatMap Pl) ∧
      ∀ i, i < m → ∃ (ys : List (DataW H × List MemPlace)) (n : Nat), D i = .agg (ys.map (·.1)) ∧ Pl i = ys.flatMap (·.2) ∧ ys.length = fs.size ∧
        ∀ (j : Nat) (f : Field), fs[j]? = some f → ∃ (v : Value) (y : DataW H × List MemPlace), w.cell? (a.add (i * fs.size + j)) = some v ∧ ys[j]? = some y ∧ DataW.trod enc P w base spare held n f.type [v] = some y := by
  rcases open_slice ht h with h0 | ⟨a, len, cap, m, n, D, Pl, hcs, hb, hl, hm, hmm, hx, hi⟩
  · exact .inl h0
  · refine .inr ⟨a, len, cap, m, D, Pl, hcs, hb, hl, hm, hmm, by rw [hC] at hx; exact hx, fun i him => ?_⟩
    obtain ⟨cs', hc, ht'⟩ := hi i him
    rw [hC] at hc
    obtain ⟨ys, n', hn', hy, hlen, hyl, hf⟩ := DataW.trod_struct he ht'
    obtain ⟨_, hcl, hat⟩ := World.cells?_some hc
    simp only [Prod.mk.injEq] at hy
    refine ⟨ys, n', hy.1, hy.2, hyl, fun j f hj => ?_⟩
    obtain ⟨ho, hk⟩ := hone_of hone j f hj
    have hjl : j < fs.size := (Array.getElem?_eq_some_iff.1 hj).1
    have hcell := hat j hjl
    have hv : cs'[j]? = some (cs'[j]'(by omega)) := List.getElem?_eq_getElem (by omega)
    have h1 := hf j f hj
    rw [ho, hk] at h1
    have hone' : (cs'.drop j).take 1 = [cs'[j]'(by omega)] := by
      rw [List.drop_eq_getElem_cons (by omega)]
      rfl
    rw [hone'] at h1
    have hys : ys[j]? = some (ys[j]'(by omega)) := List.getElem?_eq_getElem (by omega)
    refine ⟨_, _, ?_, hys, h1.trans hys⟩
    rw [← Go.Deep.add_add, hcell, hv]
end

/-- a call, as its four cells tell it -/
structure OpAt (w : World) (b o : Nat) (kind : Int) (lv : Value) (l : List ByteArray) (n : Int) (ka : Option Addr) (kl kc : Nat) (ks : List Int) : Prop where
  c0 : w.cell? ⟨b, o, none⟩ = some (.int .i64 kind)
  c1 : w.cell? ⟨b, o + 1, none⟩ = some lv
  c2 : w.cell? ⟨b, o + 2, none⟩ = some (.int .i64 n)
  c3 : w.cell? ⟨b, o + 3, none⟩ = some (.slice ka kl kc)
  k0 : -9223372036854775808 ≤ kind
  k1 : kind ≤ 9223372036854775807
  n0 : -9223372036854775808 ≤ n
  n1 : n ≤ 9223372036854775807
  sl : SL w lv l
  ll : l.length ≤ 9223372036854775807 ∧ ∀ s ∈ l, s.size ≤ 9223372036854775807
  kz : ks.length = kl
  kk : kl ≤ kc ∧ kc ≤ 9223372036854775807
  kr : KRow w ka kl kc ks
/-- a list of calls -/
def OpsRow (w : World) (a : Option Addr) (len : Nat) : Prop := ∀ i, i < len → ∃ b o, a = some ⟨b, o, none⟩ ∧ b < w.heap.size ∧ ∃ kind lv l n ka kl kc ks, OpAt w b (o + i * 4) kind lv l n ka kl kc ks

theorem open_ops {H : Type} {enc : TypeId × Value → H} {w : World} {held : Bool} {a : Option Addr} {len cap : Nat} {d : DataW H} {ps : List MemPlace}
    (h : DataW.Trod enc Tryz.prog w 0 (fun _ => true) held 48 (.slice a len cap) d ps) :
    len ≤ cap ∧ cap ≤ 9223372036854775807 ∧ ∃ z : Unit, 0 = 0 ∧ OpsRow w a len := by
  obtain ⟨fuel, hf⟩ := h
  rcases open_slice_fields2 Tryz.underlying48 Tryz.underlying52 (by kernel_rfl) (by kernel_rfl) hf with ⟨hcs, _⟩ | ⟨x, l, c, m, D, Pl, hcs, _, hl, hm, hmm, _, hi⟩
  · simp [Value.cells] at hcs
    obtain ⟨rfl, rfl, rfl⟩ := hcs
    exact ⟨Nat.le_refl _, by omega, (), rfl, fun i h => absurd h (by simp)⟩
  · simp [Value.cells] at hcs
    obtain ⟨rfl, rfl, rfl⟩ := hcs
    have hlm : len ≤ m := by rw [hmm]; split <;> omega
    refine ⟨hl, hm, (), rfl, fun i hil => ?_⟩
    obtain ⟨ys, n', _, _, _, hfld⟩ := hi i (by omega)
    obtain ⟨v0, y0, k0, _, t0⟩ := hfld 0 _ rfl
    obtain ⟨v1, y1, k1, _, t1⟩ := hfld 1 _ rfl
    obtain ⟨v2, y2, k2, _, t2⟩ := hfld 2 _ rfl
    obtain ⟨v3, y3, k3, _, t3⟩ := hfld 3 _ rfl
    obtain ⟨z0, e0, _, wf0⟩ := DataW.trod_int Tryz.underlying3 t0
    obtain ⟨z2, e2, _, wf2⟩ := DataW.trod_int Tryz.underlying3 t2
    simp only [List.cons.injEq, and_true] at e0 e2
    subst e0 e2
    obtain ⟨q0, q1⟩ := bounds_i64 wf0
    obtain ⟨r0, r1⟩ := bounds_i64 wf2
    obtain ⟨l1, hl1, hl2, hl3⟩ : ∃ l1, SL w v1 l1 ∧ l1.length ≤ 9223372036854775807 ∧ ∀ s ∈ l1, s.size ≤ 9223372036854775807 := by
      rcases open_strings Tryz.underlying22 Tryz.underlying9 (by kernel_rfl) t1 with ⟨hcs, _⟩ | ⟨x', l', c', ss, hcs, _⟩
      · simp only [List.cons.injEq, and_true] at hcs
        exact ⟨[], by rw [hcs]; exact SL.nil w, by simp, fun s h => by cases h⟩
      · simp only [List.cons.injEq, and_true] at hcs
        have ht' : DataW.Trod enc Tryz.prog w 0 (fun _ => true) held 22 (.slice (some x') l' c') y1.1 y1.2 := ⟨n', by rw [hcs] at t1; exact t1⟩
        obtain ⟨h1, h2, z, h3, h4, h5⟩ := open_strs ht'
        exact ⟨z, by rw [hcs]; exact h4, by omega, h5⟩
    obtain ⟨ka, kl, kc, ks, hv3, hkz, hkk, hkr⟩ : ∃ ka kl kc ks, v3 = .slice ka kl kc ∧ ks.length = kl ∧ (kl ≤ kc ∧ kc ≤ 9223372036854775807) ∧ KRow w ka kl kc ks := by
      rcases open_ints Tryz.underlying50 Tryz.underlying3 (by kernel_rfl) t3 with ⟨hcs, _⟩ | ⟨x', l', c', ss, hcs, _⟩
      · simp only [List.cons.injEq, and_true] at hcs
        have ht' : DataW.Trod enc Tryz.prog w 0 (fun _ => true) held 50 (.slice none 0 0) y3.1 y3.2 := ⟨n', by rw [hcs] at t3; exact t3⟩
        obtain ⟨h1, h2, z, h3, h4⟩ := open_ks ht'
        exact ⟨_, _, _, z, hcs, h3, ⟨h1, h2⟩, h4⟩
      · simp only [List.cons.injEq, and_true] at hcs
        have ht' : DataW.Trod enc Tryz.prog w 0 (fun _ => true) held 50 (.slice (some x') l' c') y3.1 y3.2 := ⟨n', by rw [hcs] at t3; exact t3⟩
        obtain ⟨h1, h2, z, h3, h4⟩ := open_ks ht'
        exact ⟨_, _, _, z, hcs, h3, ⟨h1, h2⟩, h4⟩
    subst hv3
    have hs : x.spot = none := by
      obtain ⟨ys0, n0, _, _, _, hfld0⟩ := hi 0 (by omega)
      obtain ⟨v, y, kf, _, _⟩ := hfld0 0 _ rfl
      have := cell_spot kf
      simpa [Addr.add] using this
    have hbl : x.block < w.heap.size := by
      have h1 := World.block_lt_of_cell? _ _ k0
      unfold Addr.add at h1
      split at h1 <;> exact h1
    obtain ⟨b, o, sp⟩ := x
    simp only at hs hbl
    subst hs
    rw [add_plain2] at k0 k1 k2 k3
    exact ⟨b, o, rfl, hbl, z0, v1, l1, z2, ka, kl, kc, ks, ⟨k0, k1, k2, k3, q0, q1, r0, r1, hl1, ⟨hl2, hl3⟩, hkz, hkk, hkr⟩⟩
end Go.Proofs.YthlmgookaljgnaaGreatDoor
