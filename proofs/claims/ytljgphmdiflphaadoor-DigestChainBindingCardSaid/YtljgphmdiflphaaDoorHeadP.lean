/- Binding of chains, the plain law: two lists of records with one head hold two strings with one Sum, or one whose Sum is the head of no records. -/
import Derived.Test.YtljgphmdiflphaaDoorBindP
namespace Go.Proofs.YtljgphmdiflphaaDoor
set_option linter.unusedVariables false

def z32 : ByteArray := ⟨#[0, 0, 0, 0, 0, 0, 0, 0, 0, 0, 0, 0, 0, 0, 0, 0, 0, 0, 0, 0, 0, 0, 0, 0, 0, 0, 0, 0, 0, 0, 0, 0]⟩
/-- the head of the records of a list, the last one first -/
def hdR : List ByteArray → ByteArray
  | [] => z32
  | s :: t => chainB (hdR t) s
/-- the strings of which Sum is computed -/
def stR : List ByteArray → List ByteArray
  | [] => []
  | s :: t => pre2 2 (hdR t) s :: stR t
theorem hdR_size (l : List ByteArray) : (hdR l).size = 32 := by
  cases l with
  | nil => rfl
  | cons s t => exact sumB_size _
theorem hdR_sum (s : ByteArray) (t : List ByteArray) : hdR (s :: t) = sumB (pre2 2 (hdR t) s) := by
  show chainB _ _ = _
  rw [chainB, catB_two]
theorem stR_length : ∀ l, (stR l).length = l.length
  | [] => rfl
  | s :: t => by simp [stR, stR_length t]
theorem stR_small : ∀ l, (∀ x ∈ l, x.size ≤ 60) → ∀ y ∈ stR l, y.size ≤ 100000
  | [], _, y, hy => by cases hy
  | s :: t, h, y, hy => by
    rcases List.mem_cons.1 hy with rfl | hy
    · have h1 := hdR_size t
      have h2 := h s (by simp)
      unfold pre2
      rw [ByteArray.size_append, ByteArray.size_append, show (⟨#[2]⟩ : ByteArray).size = 1 from rfl]; omega
    · exact stR_small t (fun x hx => h x (by simp [hx])) y hy

/-- the longer one of two lists, and its string behind the other's end -/
def longR (a b : List ByteArray) : List ByteArray := if a.length < b.length then stR b else stR a
theorem head_coll : ∀ a b, a ≠ b → hdR a = hdR b → collB (stR a) (stR b) = true ∨ (a.length ≠ b.length ∧ ∃ x, (longR a b)[min a.length b.length]? = some x ∧ sumB x = z32)
  | [], [], h, _ => absurd rfl h
  | [], s :: t, _, h => .inr ⟨by simp, pre2 2 (hdR t) s, by simp [longR, stR], by rw [← hdR_sum, ← h]; rfl⟩
  | s :: t, [], _, h => .inr ⟨by simp, pre2 2 (hdR t) s, by simp [longR, stR], by rw [← hdR_sum, h]; rfl⟩
  | s :: t, s' :: t', hn, h => by
    by_cases he : pre2 2 (hdR t) s = pre2 2 (hdR t') s'
    · obtain ⟨e1, e2⟩ := pre2_inj he (by rw [hdR_size, hdR_size])
      rcases head_coll t t' (fun e => hn (by rw [e, e2])) e1 with h1 | ⟨h1, x, h2, h3⟩
      · exact .inl (collB_tail h1)
      · refine .inr ⟨by simpa using h1, x, ?_, h3⟩
        rw [← h2]
        have : (longR (s :: t) (s' :: t')) = (if t.length < t'.length then pre2 2 (hdR t') s' else pre2 2 (hdR t) s) :: longR t t' := by
          unfold longR
          by_cases hl : t.length < t'.length
          · rw [if_pos (by simpa using hl), if_pos hl, if_pos hl]; rfl
          · rw [if_neg (by simpa using hl), if_neg hl, if_neg hl]; rfl
        rw [this, List.length_cons, List.length_cons, show min (t.length + 1) (t'.length + 1) = min t.length t'.length + 1 by omega, List.getElem?_cons_succ]
    · exact .inl (collB_head he (by rw [← hdR_sum, ← hdR_sum]; exact h))
end Go.Proofs.YtljgphmdiflphaaDoor
