/- slices.IndexFunc, ContainsFunc at strings. -/
import Derived.Test.YtljgphmdiflphaaDoorTreeA
namespace Go.Proofs.YtljgphmdiflphaaDoor
open Go.RowKit
set_option linter.unusedVariables false

/-- the number that slices.IndexFunc answers -/
def idxS (p : ByteArray → Bool) (l : List ByteArray) : Int := match l.findIdx? p with | some i => (i : Int) | none => -1
theorem idxS_any (p : ByteArray → Bool) (l : List ByteArray) : decide (0 ≤ idxS p l) = l.any p := by
  unfold idxS
  cases h : l.findIdx? p with
  | none =>
    rw [List.findIdx?_eq_none_iff] at h
    have : l.any p = false := List.any_eq_false.2 fun x hx => by simp [h x hx]
    rw [this]; rfl
  | some i =>
    obtain ⟨h1, h2, _⟩ := List.findIdx?_eq_some_iff_getElem.1 h
    have : l.any p = true := List.any_eq_true.2 ⟨l[i], List.getElem_mem h1, h2⟩
    rw [this]; simp

set_option maxHeartbeats 1000000 in
theorem IndexS_any (w : World) (sv : Value) (l : List ByteArray) (hsl : SL w sv l) (hlen : l.length ≤ 1000000000) (fn : Nat) (caps : Array Value) (hcap : caps.size ≤ 3) (p : ByteArray → Bool)
    (ha : ∀ s, s ∈ l → Calls Tryd.prog fn (#[.string s] ++ caps) w fun e w' => e = .returned (.bool (p s)) ∧ w = w') (hen : ∀ args w, (callFunc fn args).run Tryd.prog w = .ok (.enter fn args) w) :
    Calls Tryd.prog 112 #[sv, .func (.func fn) #[] caps] w fun e w' => e = .returned (.int .i64 (idxS p l)) ∧ w = w' := by
  obtain ⟨a, cap, rfl, hcp, hne⟩ := hsl.form
  obtain ⟨n, hn⟩ : ∃ n, l.length = n := ⟨_, rfl⟩
  have HA := Lib.hid ha
  have HN := Lib.hid hn
  rw [hn] at hlen ⊢
  have HNE := Lib.hid hne
  clear ha hn hne hsl
  go_enter Tryd.func112, Tryd.ntmps112
  go_wp2
  go_loop [8] (fun i => ∃ k : Nat, k ≤ n ∧ i = .int .i64 k ∧ Hid (∀ j, (h : j < l.length) → j < k → p l[j] = false)) (fun i => n - (intOf i).toNat)
  case atStart => exact ⟨0, Nat.zero_le _, rfl, fun j _ h => by omega⟩
  case round =>
    obtain ⟨k, hk, rfl, hb⟩ := hrel
    by_cases hlt : k < n
    · have hk' : k < l.length := by rw [HN.out]; exact hlt
      obtain ⟨b, off, rfl, hbl, hcs⟩ := HNE.out (by omega)
      have c : w.cell? ⟨b, off + k, none⟩ = some (.string l[k]) := hcs k _ (List.getElem?_eq_getElem hk')
      have HM : Hid (l[k] ∈ l) := Lib.hid (List.getElem_mem hk')
      clear hcs
      obtain ⟨z, hz⟩ : ∃ z, l[k] = z := ⟨_, rfl⟩
      rw [hz] at c HM
      have HZ := Lib.hid hz
      clear hz
      cases hp : p z with
      | true =>
        have hfin : idxS p l = k := by
          unfold idxS
          rw [show l.findIdx? p = some k from List.findIdx?_eq_some_iff_getElem.2 ⟨hk', by rw [HZ.out]; exact hp, fun j hj => by simp [hb.out j (by omega) hj]⟩]
        have HF := Lib.hid hfin
        have HP := Lib.hid hp
        clear hp hfin
        go_wp2_with fail
        refine (HA.out z HM.out).mono ?_
        rintro e w' ⟨rfl, rfl⟩
        rw [HP.out]
        go_wp2_with fail
        go_ret
        rw [HF.out]
        exact ⟨rfl, rfl⟩
      | false =>
        have HP := Lib.hid hp
        clear hp
        go_wp2_with fail
        refine (HA.out z HM.out).mono ?_
        rintro e w' ⟨rfl, rfl⟩
        rw [HP.out]
        go_wp2_with fail
        go_round
        case rel =>
          refine ⟨k + 1, by omega, by go_num, fun j h hj => ?_⟩
          by_cases e : j = k
          · subst e; rw [HZ.out]; exact HP.out
          · exact hb.out j h (by omega)
        case measure => simp [intOf]; omega
    · obtain rfl : k = n := by omega
      have hfin : idxS p l = -1 := by
        unfold idxS
        rw [show l.findIdx? p = none from List.findIdx?_eq_none_iff.2 fun x hx => by
          obtain ⟨j, hj, rfl⟩ := List.getElem_of_mem hx
          exact hb.out j hj (by rw [← HN.out]; exact hj)]
      have HF := Lib.hid hfin
      clear hfin
      go_wp2
      go_ret
      rw [HF.out]
      exact ⟨rfl, rfl⟩

set_option maxHeartbeats 1000000 in
theorem ContainsS_any (w : World) (sv : Value) (l : List ByteArray) (hsl : SL w sv l) (hlen : l.length ≤ 1000000000) (fn : Nat) (caps : Array Value) (hcap : caps.size ≤ 3) (p : ByteArray → Bool)
    (ha : ∀ s, s ∈ l → Calls Tryd.prog fn (#[.string s] ++ caps) w fun e w' => e = .returned (.bool (p s)) ∧ w = w') (hen : ∀ args w, (callFunc fn args).run Tryd.prog w = .ok (.enter fn args) w) :
    Calls Tryd.prog 79 #[sv, .func (.func fn) #[] caps] w fun e w' => e = .returned (.bool (l.any p)) ∧ w = w' := by
  have IX := Lib.hid (IndexS_any w sv l hsl hlen fn caps hcap p ha hen)
  have HX := Lib.hid (idxS_any p l)
  generalize idxS p l = z at *
  clear hsl ha
  go_enter Tryd.func79, Tryd.ntmps79
  go_wp2_with fail
  refine IX.out.mono ?_
  rintro e w' ⟨rfl, rfl⟩
  go_wp2
  go_ret
  exact ⟨ret_bool HX.out, rfl⟩

set_option maxHeartbeats 1000000 in
theorem all1_any (s : ByteArray) (hs : s.size ≤ 9223372036854775807) (w : World) :
    Calls Tryd.prog 87 (#[.string s] ++ #[]) w fun e w' => e = .returned (.bool (!(s.size == 32))) ∧ w = w' := by
  go_enter Tryd.func87, Tryd.ntmps87
  go_wp2_with fail
  refine (isDigest_any s hs _).mono ?_
  rintro e w' ⟨rfl, rfl⟩
  go_wp2
  go_ret
  exact ⟨rfl, rfl⟩

/-- are all strings digests? -/
def allD (l : List ByteArray) : Bool := !(l.any fun s => !(s.size == 32))
theorem allD_iff (l : List ByteArray) : allD l = true ↔ ∀ s ∈ l, s.size = 32 := by simp [allD]

set_option maxHeartbeats 1000000 in
theorem all_any (w : World) (sv : Value) (l : List ByteArray) (hsl : SL w sv l) (hlen : l.length ≤ 1000000000) (hs : ∀ s ∈ l, s.size ≤ 9223372036854775807) :
    Calls Tryd.prog 58 #[sv] w fun e w' => e = .returned (.bool (allD l)) ∧ w = w' := by
  have CO := Lib.hid (ContainsS_any w sv l hsl hlen 87 #[] (by simp) (fun s => !(s.size == 32)) (fun s h => all1_any s (hs s h) w) (enters_of Tryd.func87 (by kernel_rfl) rfl))
  clear hsl hs
  go_enter Tryd.func58, Tryd.ntmps58
  go_wp2_with fail
  refine CO.out.mono ?_
  rintro e w' ⟨rfl, rfl⟩
  go_wp2
  go_ret
  exact ⟨rfl, rfl⟩
end Go.Proofs.YtljgphmdiflphaaDoor
