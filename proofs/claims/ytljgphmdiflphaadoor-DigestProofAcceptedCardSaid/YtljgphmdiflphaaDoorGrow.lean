/- Appending strings to an empty slice, and to what came of it, in a region that draws its order. -/
import Derived.Test.YtljgphmdiflphaaDoorApp
import Derived.ArgAppend
namespace Go.Proofs.YtljgphmdiflphaaDoor
open Go.RowKit
set_option linter.unusedVariables false

/-- What strings can be appended to: an empty slice without room, or a row of the call's own. -/
def Grow (B : Nat) (w : World) (v : Value) (xs : List ByteArray) : Prop := (xs = [] ∧ ∃ g, v = .slice (some ⟨g, 0, none⟩) 0 0) ∨ w.ownsRow B 9 1 v xs.length (strV xs)
theorem Grow.empty (B : Nat) (w : World) (g : Nat) : Grow B w (.slice (some ⟨g, 0, none⟩) 0 0) [] := .inl ⟨rfl, g, rfl⟩
theorem Grow.sl {B : Nat} {w : World} {v : Value} {xs : List ByteArray} (h : Grow B w v xs) : SL w v xs := by
  rcases h with ⟨rfl, ad, rfl⟩ | h
  · exact ⟨some ⟨ad, 0, none⟩, 0, rfl, Nat.le_refl _, fun h => absurd h (by simp)⟩
  · exact SL_own h
theorem Grow.alloc {B : Nat} {w : World} {v : Value} {xs : List ByteArray} (h : Grow B w v xs) (o : Obj) : Grow B (w.alloc o) v xs := h.imp id (fun k => k.alloc o)
theorem sl_cells {w : World} {ad : Addr} {c : Nat} {ys : List ByteArray} (h : SL w (.slice (some ad) ys.length c) ys) : ∀ j u, (strV ys)[j]? = some u → w.cell? (ad.add j) = some u := fun j u hu => by
  have hj : j < ys.length := by
    have := (List.getElem?_eq_some_iff.1 hu).1
    simpa [strV] using this
  obtain ⟨b, off, c', e, _, hb, hc⟩ := h.out (by omega)
  injection e with e1 e2 e3
  injection e1 with e1
  subst e1
  have hadd : (⟨b, off, none⟩ : Addr).add j = ⟨b, off + j, none⟩ := by
    unfold Addr.add
    by_cases h : j = 0
    · subst h; simp
    · simp [h]
  rw [hadd, hc j ys[j] (List.getElem?_eq_getElem hj), ← hu]
  simp [strV, hj]
theorem str_one (ys : List ByteArray) : ∀ u ∈ strV ys, u.oneCell' = true := fun u hu => by
  simp only [strV, List.mem_map] at hu
  obtain ⟨y, _, rfl⟩ := hu
  rfl
theorem run_append_none0 {P : Program} {w : World} (t ty e : TypeId) (i : TypeInfo) (c : Nat) (ht : P.underlying t = some (.slice e)) (hi : P.info? e = some i) (ad : Addr) :
    (Builtin.append_ #[t, t] ty #[.slice (some ad) 0 0, .slice none 0 c]).run P w = .ok (.slice (some ad) 0 0) w := by
  simp [Builtin.append_, run_underlying ht, sizeOf, typeInfo, hi, Builtin.lenOf, Builtin.firstCells, storeCells]
theorem run_append_some0 {P : Program} {w : World} (t ty e : TypeId) (i : TypeInfo) (c : Nat) (ht : P.underlying t = some (.slice e)) (hi : P.info? e = some i) (g : Nat) (bd : Addr) :
    (Builtin.append_ #[t, t] ty #[.slice (some ⟨g, 0, none⟩) 0 0, .slice (some bd) 0 c]).run P w = .ok (.slice (some ⟨g, 0, none⟩) 0 0) w := by
  have h := run_append_room_cells (P := P) w t ty e i ht hi g 0 0 0 bd 0 c [] (by simp) (fun j u hu => by cases hu) (fun u hu => by cases hu) (Nat.le_refl _) (fun j hj => by simp at hj) (fun j hj => by simp at hj)
  simpa [World.setCells] using h

/-- append([]string{}, ys...) -/
theorem run_append_empty {w : World} (ty : TypeId) (g0 : Nat) (v2 : Value) (ys : List ByteArray) (hsl : SL w v2 ys) (hn : ys.length ≤ 1000000) (B : Nat) (hB : B ≤ w.heap.size) :
    ∃ v' w', (Builtin.append_ #[22, 22] ty #[.slice (some ⟨g0, 0, none⟩) 0 0, v2]).run Tryd.prog w = .ok v' w' ∧ Grow B w' v' ys ∧ Below w.heap.size w w' := by
  obtain ⟨i0, hi, hz0, hz1, hz2⟩ := info_parts Tryd.infoStr
  obtain ⟨bd, c, e, hc, hcs⟩ := hsl.form
  subst e
  by_cases h0 : ys.length = 0
  · have hy : ys = [] := List.eq_nil_of_length_eq_zero h0
    subst hy
    rw [show ([] : List ByteArray).length = 0 from rfl]
    cases bd with
    | none => exact ⟨_, _, run_append_none0 22 ty 9 i0 c Tryd.underlying22 hi ⟨g0, 0, none⟩, Grow.empty _ _ _, Below.refl _ _⟩
    | some bd => exact ⟨_, _, run_append_some0 22 ty 9 i0 c Tryd.underlying22 hi g0 bd, Grow.empty _ _ _, Below.refl _ _⟩
  · obtain ⟨b, off, e, hb, _⟩ := hcs (by omega)
    subst e
    obtain ⟨v', w', hr, ho, hg⟩ := run_append_arg_grows (P := Tryd.prog) w 22 ty 9 i0 _ 1 16 Tryd.underlying22 hi hz0 hz1 hz2 rfl (by decide) ⟨g0, 0, none⟩ 0 0 [] rfl (fun j u hu => by cases hu) ⟨b, off, none⟩ ys.length c (strV ys) (by simp [strV]) (sl_cells hsl) (by omega) (by simp only [maxLen]; omega) (by omega)
    refine ⟨v', w', hr, .inr ?_, (Below.refl _ _).grown hg (Nat.le_refl _) (by simp)⟩
    rw [Nat.zero_add, List.nil_append] at ho
    exact ⟨ho.1, ho.2.imp id (fun ⟨g, c, cu, e1, e2, r⟩ => ⟨g, c, cu, e1, Nat.le_trans hB e2, r⟩)⟩
theorem step_append_empty {w : World} {ops : Array Oper} {o : Oper} {a : Act} {K : Act → World → Prop} {Q : Exit → Act → World → Prop} {E : Prop} (hgd : o.guard = none) (s x : Operand)
    (ho : o.op = .call { callee := .builtin .append, args := #[s, x], argTypes := #[22, 22] }) (g0 : Nat) (hs : a.eval s = .slice (some ⟨g0, 0, none⟩) 0 0)
    (v2 : Value) (ys : List ByteArray) (hx : a.eval x = v2) (hsl : SL w v2 ys) (hn : ys.length ≤ 1000000) (B : Nat) (hB : B ≤ w.heap.size)
    (h : ∀ v' w', Grow B w' v' ys → Below w.heap.size w w' → K (a.put o.dst v') w') :
    if Region.wanted o (yielded ops a.tmps) = true then Oper.wp Tryd.prog o a w K Q else E := by
  have hw : Region.wanted o (yielded ops a.tmps) = true := by simp [Region.wanted, hgd]
  rw [if_pos hw]
  obtain ⟨v', w', hr, h1, h2⟩ := run_append_empty o.type g0 v2 ys hsl hn B hB
  unfold Oper.wp execOp
  simp only [ho, resolve, invoke, builtin, Sem.run_bind, Sem.run_pure, Result.andThen_ok, List.map_toArray, List.map_cons, List.map_nil, hs, hx, hr]
  exact h v' w' h1 h2
/-- append(v, ys...) where v came of such a one -/
theorem step_append_grow {w : World} {ops : Array Oper} {o : Oper} {a : Act} {K : Act → World → Prop} {Q : Exit → Act → World → Prop} {E : Prop} (hgd : o.guard = none) (s x : Operand)
    (ho : o.op = .call { callee := .builtin .append, args := #[s, x], argTypes := #[22, 22] }) (B : Nat) (v : Value) (xs : List ByteArray) (hs : a.eval s = v) (hg : Grow B w v xs)
    (v2 : Value) (ys : List ByteArray) (hx : a.eval x = v2) (hsl : SL w v2 ys) (hn : xs.length + ys.length ≤ 1000000) (hB : B ≤ w.heap.size)
    (h : ∀ v' w', Grow B w' v' (xs ++ ys) → Below B w w' → K (a.put o.dst v') w') :
    if Region.wanted o (yielded ops a.tmps) = true then Oper.wp Tryd.prog o a w K Q else E := by
  rcases hg with ⟨rfl, ad, rfl⟩ | hg
  · exact step_append_empty hgd s x ho ad hs v2 ys hx hsl (by simp at hn; omega) B hB (fun v' w' h1 h2 => h v' w' h1 (h2.mono hB))
  · exact step_append_sl hgd s x ho B v xs.length xs hs hg v2 ys hx hsl hn hB (fun v' w' h1 h2 => h v' w' (.inr (by rw [List.length_append]; exact h1)) ((Below.refl B w).grown h2 hB (fun j e => (hg.lt j (by first | exact e | simpa using e)).1)))
theorem SL_lit (W : World) (r : ByteArray) : SL (W.alloc (.cells #[.string r] 9)) (.slice (some ⟨W.heap.size, 0, none⟩) 1 1) [r] := SL_own (own_lit W [r] 0 (Nat.zero_le _) (by simp))
end Go.Proofs.YtljgphmdiflphaaDoor
