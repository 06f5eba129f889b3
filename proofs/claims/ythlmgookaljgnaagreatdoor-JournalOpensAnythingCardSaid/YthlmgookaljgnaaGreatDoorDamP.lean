/- A byte of a journal is changed: plain. -/
import Derived.Test.YthlmgookaljgnaaGreatDoorMg
namespace Go.Proofs.YthlmgookaljgnaaGreatDoor
open Go.RowKit
set_option linter.unusedVariables false

/-- what the head of a record is computed of -/
def headIn (h r : ByteArray) : ByteArray := ⟨#[2]⟩ ++ h ++ r
/-- is a byte one of the length of a record? -/
def sizedP : List ByteArray → Int → Bool
  | [], _ => false
  | r :: l, at_ => if 1 ≤ at_ ∧ at_ ≤ ((intS r.size).size : Int) then true else sizedP l (at_ - (1 + ((intS r.size).size : Int) + (r.size : Int) + 32))
theorem sizedP_neg : ∀ (l : List ByteArray) (a : Int), a < 1 → sizedP l a = false
  | [], a, h => rfl
  | r :: l, a, h => by rw [sizedP, if_neg (by omega)]; exact sizedP_neg l _ (by omega)

theorem set_app_left {α : Type} (a b : List α) (j : Nat) (x : α) (h : j < a.length) : (a ++ b).set j x = a.set j x ++ b := by rw [List.set_append, if_pos h]
theorem set_app_right {α : Type} (a b : List α) (j : Nat) (x : α) (h : a.length ≤ j) : (a ++ b).set j x = a ++ b.set (j - a.length) x := by rw [List.set_append, if_neg (by omega)]

/-- what is left of a load, when it goes on -/
theorem loadP_recs (s : ByteArray) : ∀ (f : Nat) (t t' : TV), loadP s f t = some t' → ∃ l, t'.recs = t.recs ++ l
  | 0, t, t', h => by cases h; exact ⟨[], by simp⟩
  | f + 1, t, t', h => by
    rw [loadP] at h
    split at h
    · split at h
      · cases h; exact ⟨[], by simp⟩
      · split at h
        · split at h
          · split at h
            · obtain ⟨l, e⟩ := loadP_recs s f _ t' h
              exact ⟨_, by rw [e, List.append_assoc]⟩
            · cases h
          · cases h
        · cases h
    · cases h; exact ⟨[], by simp⟩

/-- the load of a content in which one byte is changed -/
theorem damaged_load (s : ByteArray) (c : UInt8) : ∀ (l : List ByteArray) (t : TV) (f j : Nat) (tl : List UInt8), (∀ r ∈ l, r.size ≤ 65536) → l.length ≤ f → j < (outE t l).size → sizedP l (j : Int) = false →
    s.data.toList.drop t.size = ((outE t l).data.toList ++ tl).set j c → ((outE t l).data.toList)[j]? ≠ some c →
    loadP s f t = none ∨ ∃ t', loadP s f t = some t' ∧
      ((c = 0 ∧ ∃ p q, l = p ++ q ∧ q ≠ [] ∧ t'.recs = t.recs ++ p) ∨
       (∃ p q r r' l', l = p ++ r :: q ∧ t'.recs = t.recs ++ p ++ r' :: l' ∧ r ≠ r' ∧ chainB (growAll t p).head r = chainB (growAll t p).head r'))
  | [], t, f, j, tl, hs, hf, hj, hz, hd, hc => absurd hj (Nat.not_lt_zero _)
  | r :: l, t, f, j, tl, hs, hf, hj, hz, hd, hc => by
    obtain ⟨f, rfl⟩ : ∃ f', f = f' + 1 := ⟨f - 1, by simp at hf; omega⟩
    have hr := hs r (by simp)
    have hR := recE_len t.head r
    have hRl : (recE t.head r).data.toList.length = (recE t.head r).size := ba_len _
    have hE : (outE t (r :: l)).data.toList = (recE t.head r).data.toList ++ (outE (growT t r) l).data.toList := by rw [outE, app_list]
    have hps : (putS r).size = (intS r.size).size + r.size := by rw [putS, ByteArray.size_append]
    rw [hE] at hd hc
    by_cases hjR : j < (recE t.head r).size
    · -- the record that is changed
      rw [List.append_assoc, set_app_left _ _ _ _ (by omega)] at hd
      rw [List.getElem?_append_left (by omega)] at hc
      have hrec : (recE t.head r).data.toList = 1 :: ((intS r.size).data.toList ++ (r.data.toList ++ (chainB t.head r).data.toList)) := by
        rw [recE, app_list, app_list, putS, app_list, List.append_assoc, List.append_assoc]; rfl
      have hil : (intS r.size).data.toList.length = (intS r.size).size := ba_len _
      have hrl : r.data.toList.length = r.size := ba_len _
      have hcl : (chainB t.head r).data.toList.length = 32 := by rw [ba_len, chainB, sumB_size]
      rw [sizedP] at hz
      rw [hrec] at hd hc
      rcases Nat.eq_zero_or_pos j with rfl | hj0
      · -- the first byte
        rw [List.set_cons_zero, List.cons_append] at hd
        obtain ⟨hq, hx, _⟩ := drop_cons_at hd
        have hc1 : ¬ c = 1 := fun e => hc (by rw [e]; rfl)
        rw [loadP, dif_pos hq, hx]
        by_cases hc0 : c = 0
        · rw [if_pos hc0]
          exact .inr ⟨t, rfl, .inl ⟨hc0, [], r :: l, rfl, by simp, by simp⟩⟩
        · rw [if_neg hc0, if_neg hc1]; exact .inl rfl
      · obtain ⟨j, rfl⟩ : ∃ j', j = j' + 1 := ⟨j - 1, by omega⟩
        rw [List.set_cons_succ, List.cons_append] at hd
        rw [List.getElem?_cons_succ] at hc
        have hji : (intS r.size).size ≤ j := by
          by_cases h : 1 ≤ ((j + 1 : Nat) : Int) ∧ ((j + 1 : Nat) : Int) ≤ ((intS r.size).size : Int)
          · rw [if_pos h] at hz; cases hz
          · omega
        rw [set_app_right _ _ _ _ (by omega), hil] at hd
        rw [List.getElem?_append_right (by omega), hil] at hc
        obtain ⟨hq, hx, hd1⟩ := drop_cons_at hd
        have hsz := size_drop s (t.size + 1)
        rw [hd1] at hsz
        by_cases hjr : j - (intS r.size).size < r.size
        · -- a byte of its content
          rw [set_app_left _ _ _ _ (by omega)] at hd1
          rw [List.getElem?_append_left (by omega)] at hc
          obtain ⟨r', hr'⟩ : ∃ r' : ByteArray, r'.data.toList = r.data.toList.set (j - (intS r.size).size) c := ⟨⟨(r.data.toList.set (j - (intS r.size).size) c).toArray⟩, by simp⟩
          have hr's : r'.size = r.size := by rw [← ba_len, hr', List.length_set, hrl]
          have hne : r ≠ r' := fun e => hc (by
            rw [← e] at hr'
            rw [hr', List.getElem?_set_self (by omega)])
          have hd2 : s.data.toList.drop (t.size + 1) = (putS r').data.toList ++ ((chainB t.head r).data.toList ++ ((outE (growT t r) l).data.toList ++ tl)) := by
            rw [hd1, putS, app_list, hr's, hr']; simp
          obtain ⟨e1, e2⟩ := decS_enc s (t.size + 1) r' _ (by omega) hd2
          have hps' : (putS r').size = (putS r).size := by rw [putS, putS, ByteArray.size_append, ByteArray.size_append, hr's]
          have hsl := size_drop s (t.size + 1 + (putS r').size)
          rw [e2, List.length_append, hcl] at hsl
          rw [loadP, dif_pos hq, hx, if_neg (by decide), if_pos rfl, e1]
          simp only
          by_cases hcond : t.size + 1 + (putS r').size + 32 ≤ s.size ∧ recE t.head r' = s.extract t.size (t.size + 1 + (putS r').size + 32)
          · rw [if_pos hcond]
            have hch : chainB t.head r = chainB t.head r' := by
              have h3 : (recE t.head r').data.toList = _ := congrArg (fun b : ByteArray => b.data.toList) hcond.2
              rw [extract_list, List.drop_eq_getElem_cons (l := s.data.toList) (i := t.size) (by rw [ba_len]; omega)] at h3
              have hx' : s.data.toList[t.size]'(by rw [ba_len]; omega) = 1 := hx
              rw [hx', hd2, recE, app_list, app_list, ← List.append_assoc] at h3
              have hl2 : t.size + 1 + (putS r').size + 32 - t.size = ((1 : UInt8) :: ((putS r').data.toList ++ (chainB t.head r).data.toList)).length := by
                simp only [List.length_cons, List.length_append, ba_len]
                rw [show (chainB t.head r).size = 32 from sumB_size _]; omega
              rw [hl2] at h3
              change _ = List.take _ (((1 : UInt8) :: ((putS r').data.toList ++ (chainB t.head r).data.toList)) ++ _) at h3
              rw [List.take_left] at h3
              have h4 : (1 : UInt8) :: ((putS r').data.toList ++ (chainB t.head r').data.toList) = 1 :: ((putS r').data.toList ++ (chainB t.head r).data.toList) := h3
              injection h4 with _ h4
              exact (ba_ext (List.append_cancel_left h4)).symm
            rcases hL : loadP s f ⟨t.recs ++ [r'], chainB t.head r', t.size + (recE t.head r').size⟩ with _ | t'
            · exact .inl rfl
            · right
              obtain ⟨l', hl'⟩ := loadP_recs s f _ t' hL
              exact ⟨t', rfl, .inr ⟨[], l, r, r', l', rfl, by rw [hl']; simp, hne, hch⟩⟩
          · rw [if_neg hcond]; exact .inl rfl
        · -- a byte of the stored head
          rw [set_app_right _ _ _ _ (by omega), hrl] at hd1
          rw [List.getElem?_append_right (by omega), hrl] at hc
          have hjc : j - (intS r.size).size - r.size < 32 := by omega
          have hd2 : s.data.toList.drop (t.size + 1) = (putS r).data.toList ++ ((chainB t.head r).data.toList.set (j - (intS r.size).size - r.size) c ++ ((outE (growT t r) l).data.toList ++ tl)) := by
            rw [hd1, putS, app_list]; simp
          obtain ⟨e1, e2⟩ := decS_enc s (t.size + 1) r _ hr hd2
          have hsl := size_drop s (t.size + 1 + (putS r).size)
          rw [e2, List.length_append, List.length_set, hcl] at hsl
          left
          rw [loadP, dif_pos hq, hx, if_neg (by decide), if_pos rfl, e1]
          simp only
          rw [if_neg]
          rintro ⟨h1, h2⟩
          have h3 : (recE t.head r).data.toList = _ := congrArg (fun b : ByteArray => b.data.toList) h2
          rw [extract_list, List.drop_eq_getElem_cons (l := s.data.toList) (i := t.size) (by rw [ba_len]; omega)] at h3
          have hx' : s.data.toList[t.size]'(by rw [ba_len]; omega) = 1 := hx
          rw [hx', hd2, recE, app_list, app_list, ← List.append_assoc] at h3
          have hl2 : t.size + 1 + (putS r).size + 32 - t.size = ((1 : UInt8) :: ((putS r).data.toList ++ (chainB t.head r).data.toList.set (j - (intS r.size).size - r.size) c)).length := by
            simp only [List.length_cons, List.length_append, List.length_set, ba_len]
            rw [show (chainB t.head r).size = 32 from sumB_size _]; omega
          rw [hl2] at h3
          change _ = List.take _ (((1 : UInt8) :: ((putS r).data.toList ++ (chainB t.head r).data.toList.set (j - (intS r.size).size - r.size) c)) ++ _) at h3
          rw [List.take_left] at h3
          have h4 : (1 : UInt8) :: ((putS r).data.toList ++ (chainB t.head r).data.toList) = 1 :: ((putS r).data.toList ++ (chainB t.head r).data.toList.set (j - (intS r.size).size - r.size) c) := h3
          injection h4 with _ h4
          have h5 := List.append_cancel_left h4
          exact hc (by rw [h5, List.getElem?_set_self (by omega)])
    · -- a later record
      rw [List.append_assoc, set_app_right _ _ _ _ (by omega), hRl] at hd
      rw [List.getElem?_append_right (by omega), hRl] at hc
      obtain ⟨e1, e2⟩ := loadP_step s f t r _ hr hd
      have hj' : j - (recE t.head r).size < (outE (growT t r) l).size := by
        rw [outE, ByteArray.size_append] at hj; omega
      have hz' : sizedP l (((j - (recE t.head r).size : Nat)) : Int) = false := by
        rw [sizedP, if_neg (by omega)] at hz
        rw [← hz]; congr 1; omega
      rcases damaged_load s c l (growT t r) f (j - (recE t.head r).size) tl (fun x hx => hs x (by simp [hx])) (by simp at hf; omega) hj' hz' e2 hc with h | ⟨t', h, h'⟩
      · exact .inl (e1.trans h)
      · refine .inr ⟨t', e1.trans h, ?_⟩
        rcases h' with ⟨hc0, p, q, e, hq, er⟩ | ⟨p, q, x, x', l', e, er, hne, hch⟩
        · exact .inl ⟨hc0, r :: p, q, by rw [e]; rfl, hq, by rw [er]; show (t.recs ++ [r]) ++ p = _; simp⟩
        · exact .inr ⟨r :: p, q, x, x', l', by rw [e]; rfl, by rw [er]; show (t.recs ++ [r]) ++ p ++ _ = _; simp, hne, hch⟩
end Go.Proofs.YthlmgookaljgnaaGreatDoor
