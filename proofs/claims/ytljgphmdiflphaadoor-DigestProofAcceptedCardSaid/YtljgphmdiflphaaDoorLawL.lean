/- Appending rows of strings; the laws' own left. -/
import Derived.Test.YtljgphmdiflphaaDoorFew
import Derived.Laws.AppendOwnNone
namespace Go.Proofs.YtljgphmdiflphaaDoor
open Go.RowKit
set_option linter.unusedVariables false

theorem cell_add {w : World} {b j : Nat} : w.cell? ((⟨b, 0, none⟩ : Addr).add j) = w.cell? ⟨b, j, none⟩ := by
  unfold Addr.add
  by_cases h : j = 0
  · subst h; rfl
  · simp [h]
/-- Appending an own row of strings to an own row of strings. -/
theorem wpList_append_strs {w : World} {ops : Array Oper} {rest : List Oper} {o : Oper} {a : Act} {Q : Exit → Act → World → Prop} (hgd : o.guard = none) (s x : Operand)
    (ho : o.op = .call { callee := .builtin .append, args := #[s, x], argTypes := #[22, 22] }) (base : Nat) (v : Value) (n : Nat) (xs : List ByteArray) (hs : a.eval s = v) (hown : w.ownsRow base 9 1 v n (strV xs))
    (b2 : Nat) (v2 : Value) (m : Nat) (ys : List ByteArray) (hx : a.eval x = v2) (hown2 : w.ownsRow b2 9 1 v2 m (strV ys)) (hn : n + m ≤ 1000000) (hbase : base ≤ w.heap.size)
    (h : ∀ v' w', w'.ownsRow base 9 1 v' (n + m) (strV (xs ++ ys)) → w.grownBy w' v.ownBlock → wpList Tryd.prog ops Q rest (a.put o.dst v') w') : wpList Tryd.prog ops Q (o :: rest) a w := by
  obtain ⟨i0, hi, hz0, hz1, hz2⟩ := info_parts Tryd.infoStr
  have hl : ys.length = m := by have := hown2.1; simpa [strV] using this
  rcases hown2.2 with ⟨e, e0⟩ | ⟨g, cap, cur, e, hb, hg, hnc, hc, hsz, htk⟩
  · subst e
    have hy : ys = [] := List.eq_nil_of_length_eq_zero (by omega)
    subst hy
    refine wpList_append_own_none hgd s x 22 ho base 9 i0 1 Tryd.underlying22 hi v n (strV xs) hs hown hx ?_
    have := h v w (by rw [e0]; simpa using hown) (World.grownBy.refl _ _)
    exact this
  · subst e
    refine wpList_append_own w hgd s x 22 ho base 9 i0 _ 1 16 Tryd.underlying22 hi hz0 hz1 hz2 rfl (by decide) v n (strV xs) hs hown ⟨g, 0, none⟩ m cap (strV ys) hx (by simp [strV]; omega) (fun j u hu => ?_) (fun u hu => ?_) (by simp only [maxLen]; omega) (by omega) hbase (fun v' w' h1 h2 _ => h v' w' (by simpa [strV] using h1) h2)
    · rw [cell_add, cellOf hg, ← hu, ← htk, List.getElem?_take]
      have hj : j < m := by
        rw [List.getElem?_eq_some_iff] at hu
        obtain ⟨hj, _⟩ := hu
        simp [strV] at hj; omega
      rw [if_pos (by omega)]
      simp
    · simp only [strV, List.mem_map] at hu
      obtain ⟨y, _, rfl⟩ := hu
      rfl

/-- a literal slice of strings is an own row -/
theorem own_lit (W : World) (xs : List ByteArray) (base : Nat) (hb : base ≤ W.heap.size) (hl : xs.length ≤ 1000000) : (W.alloc (.cells (strV xs).toArray 9)).ownsRow base 9 1 (.slice (some ⟨W.heap.size, 0, none⟩) xs.length xs.length) xs.length (strV xs) :=
  ⟨by simp [strV], .inr ⟨_, xs.length, _, rfl, hb, allocAt _ rfl, Nat.le_refl _, by simp only [maxLen]; omega, by simp [strV], by simp only [strV, Nat.mul_one]; exact List.take_of_length_le (by simp)⟩⟩

set_option maxHeartbeats 1000000 in
theorem lawLeft_any (n : Nat) (h2 : 2 ≤ n) (hn : n ≤ 9223372036854775807) (w : World) :
    Calls Tryd.prog 30 #[.int .i64 (n : Int)] w fun e w' => e = .returned (.int .i64 (Dig.lft n : Nat)) ∧ w = w' := by
  go_enter Tryd.func30, Tryd.ntmps30
  go_wp2
  go_loop [3] (fun kv => ∃ k : Nat, kv = .int .i64 k ∧ k < n ∧ 0 < k ∧ ∃ j, k = 2 ^ j) (fun kv => n - (intOf kv).toNat)
  case atStart => exact ⟨1, rfl, by omega, by omega, 0, rfl⟩
  case round =>
    obtain ⟨k, rfl, hk, hk0, hj⟩ := hrel
    have HJ := Lib.hid hj
    clear hj
    by_cases h1 : (k : Int) < (n : Int) - (k : Int)
    · go_wp2
      go_round
      case rel => exact ⟨2 * k, by go_num, by omega, by omega, by obtain ⟨j, e⟩ := HJ.out; exact ⟨j + 1, by rw [e, Nat.pow_succ]; omega⟩⟩
      case measure => simp [intOf]; omega
    · have e : Hid (Dig.lft n = k) := Lib.hid (by obtain ⟨j, e⟩ := HJ.out; subst e; exact Dig.lft_unique hk (by omega))
      go_wp2
      go_ret
      exact ⟨ret_int (by rw [e.out]), rfl⟩
end Go.Proofs.YtljgphmdiflphaaDoor
