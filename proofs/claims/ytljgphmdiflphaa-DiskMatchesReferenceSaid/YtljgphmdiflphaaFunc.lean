/- slices.IndexFunc and slices.DeleteFunc at ints, for a function value that only reads. -/
import Derived.Test.YtljgphmdiflphaaBase
import Derived.Test.YtljgphmdiflphaaProg
namespace Go.Proofs.Ytljgphmdiflphaa
open Go.RowKit
set_option linter.unusedVariables false

/-- The function value g with what it captured answers p, in this world. -/
def Answers (w : World) (g : Nat) (lb : Array Value) (p : Int → Bool) : Prop :=
  ∀ i : Int, Calls Try.prog g (#[.int .i64 i] ++ lb) w fun e w' => e = .returned (.bool (p i)) ∧ w = w'

/-- the numbers in a slice -/
def IntRow (w : World) (g : Nat) (zs : List Int) : Prop := ∀ j, (h : j < zs.length) → w.cell? ⟨g, j, none⟩ = some (.int .i64 zs[j])

/-- where the first number lies of which p holds; -1 -/
def idxZ (p : Int → Bool) (zs : List Int) : Int := match zs.findIdx? p with | some i => (i : Int) | none => -1

set_option maxHeartbeats 1000000 in
theorem IndexFunc_any (w : World) (g cap : Nat) (zs : List Int) (fn : Nat) (b : Addr) (p : Int → Bool) (hlen : zs.length ≤ 9223372036854775807) (hr : IntRow w g zs) (ha : Answers w fn #[.pointer (some b)] p)
    (hen : ∀ args w, (callFunc fn args).run Try.prog w = .ok (.enter fn args) w) :
    Calls Try.prog 48 #[.slice (some ⟨g, 0, none⟩) zs.length cap, .func (.func fn) #[] #[.pointer (some b)]] w fun e w' =>
      e = .returned (.int .i64 (idxZ p zs)) ∧ w = w' := by
  obtain ⟨n, hn⟩ : ∃ n, zs.length = n := ⟨_, rfl⟩
  have HA := Lib.hid ha
  have HR := Lib.hid hr
  have HN := Lib.hid hn
  rw [hn] at hlen ⊢
  clear ha hr hn
  go_enter Try.func48, Try.ntmps48
  go_wp2
  go_loop [8] (fun i => ∃ k : Nat, k ≤ n ∧ i = .int .i64 k ∧ Hid (∀ j, (h : j < zs.length) → j < k → p zs[j] = false)) (fun i => n - (intOf i).toNat)
  case atStart => exact ⟨0, Nat.zero_le _, rfl, fun j _ h => by omega⟩
  case round =>
    obtain ⟨k, hk, rfl, hb⟩ := hrel
    by_cases hlt : k < n
    · have hk' : k < zs.length := by rw [HN.out]; exact hlt
      have c : w.cell? ⟨g, k, none⟩ = some (.int .i64 zs[k]) := HR.out k hk'
      obtain ⟨z, hz⟩ : ∃ z, zs[k] = z := ⟨_, rfl⟩
      rw [hz] at c
      have HZ := Lib.hid hz
      clear hz
      cases hp : p z with
      | true =>
        have hfin : idxZ p zs = k := by
          unfold idxZ
          rw [show zs.findIdx? p = some k from List.findIdx?_eq_some_iff_getElem.2 ⟨hk', by rw [HZ.out]; exact hp, fun j hj => by simp [hb.out j (by omega) hj]⟩]
        have HF := Lib.hid hfin
        have HP := Lib.hid hp
        clear hp hfin
        go_wp2_with fail
        refine (HA.out z).mono ?_
        rintro e w' ⟨rfl, rfl⟩
        rw [HP.out]
        go_wp2_with fail
        go_ret
        rw [HF.out]
        exact ⟨rfl, rfl⟩
      | false =>
        have HP := Lib.hid hp
        clear hp
        go_wp2_with fail
        refine (HA.out z).mono ?_
        rintro e w' ⟨rfl, rfl⟩
        rw [HP.out]
        go_wp2_with fail
        go_round
        case rel => exact ⟨k + 1, by omega, by simp, fun j hj hjk => by
          rcases Nat.lt_or_ge j k with h | h
          · exact hb.out j hj h
          · obtain rfl : j = k := by omega
            rw [HZ.out]; exact HP.out⟩
        case measure => simp [intOf]; omega
    · obtain rfl : k = n := by omega
      have hfin : idxZ p zs = -1 := by
        unfold idxZ
        have e : zs.findIdx? p = none := by
          rw [List.findIdx?_eq_none_iff]
          intro x hx
          obtain ⟨j, hj, rfl⟩ := List.getElem_of_mem hx
          exact hb.out j hj (by rw [← HN.out]; exact hj)
        rw [e]
      have HF := Lib.hid hfin
      clear hfin
      go_wp2
      go_ret
      rw [HF.out]
      exact ⟨rfl, rfl⟩
def intsV (zs : List Int) : List Value := zs.map (Value.int .i64)
theorem intsV_set (zs : List Int) (tl : List Value) (i : Nat) (x : Int) (h : i < zs.length) : (intsV zs ++ tl).toArray.setIfInBounds i (.int .i64 x) = (intsV (zs.set i x) ++ tl).toArray := by
  simp [intsV, List.map_set, h]
theorem intRow_of {w : World} {g : Nat} {zs : List Int} {tl : List Value} {t : TypeId} {fr : Nat × Nat} (h : w.heap[g]? = some (.cells (intsV zs ++ tl).toArray t fr)) : IntRow w g zs := fun j hj => by
  rw [cellOf h]; simp [intsV, List.getElem?_append, hj]

theorem Try.zeroInt : ∀ w, (zeroValue 3).run Try.prog w = .ok (.int .i64 0) w := fun _ => by kernel_rfl

/-- DeleteFunc's loop: what stands behind j rounds. -/
theorem del_step {zs ys : List Int} {p : Int → Bool} {i j n : Nat} (hn : zs.length = n) (hy : ys.length = n) (hij : i ≤ j) (hj : j < n) (h1 : ys.take i = (zs.take j).filter (fun x => !p x)) (h2 : ys.drop j = zs.drop j) :
    ys[j]? = zs[j]? ∧ (p (zs[j]'(by omega)) = true → ys.take i = (zs.take (j + 1)).filter (fun x => !p x) ∧ ys.drop (j + 1) = zs.drop (j + 1)) ∧
    (p (zs[j]'(by omega)) = false → (ys.set i (zs[j]'(by omega))).take (i + 1) = (zs.take (j + 1)).filter (fun x => !p x) ∧ (ys.set i (zs[j]'(by omega))).drop (j + 1) = zs.drop (j + 1)) := by
  have hyj : ys[j]? = zs[j]? := by
    have := congrArg (fun l : List Int => l[0]?) h2
    simpa using this
  have hd : ys.drop (j + 1) = zs.drop (j + 1) := by
    have := congrArg List.tail h2
    simpa using this
  have htk : zs.take (j + 1) = zs.take j ++ [zs[j]'(by omega)] := by rw [List.take_succ_eq_append_getElem (by omega)]
  refine ⟨hyj, fun hp => ⟨?_, hd⟩, fun hp => ⟨?_, ?_⟩⟩
  · rw [htk, List.filter_append, h1]; simp [hp]
  · rw [htk, List.filter_append, ← h1]
    rw [List.take_succ_eq_append_getElem (by simp; omega)]
    rw [List.take_set_of_le (Nat.le_refl _)]
    simp [hp]
  · rw [List.drop_set_of_lt (by omega)]; exact hd

set_option maxHeartbeats 1000000 in
theorem DeleteFunc_any (w : World) (g cap : Nat) (zs : List Int) (tl : List Value) (fn : Nat) (b : Addr) (p : Int → Bool) (hlen : zs.length ≤ 4611686018427387904) (hcap : zs.length ≤ cap) (htl : tl.length = cap - zs.length) (hc63 : cap ≤ 9223372036854775807)
    (hr : w.heap[g]? = some (.cells (intsV zs ++ tl).toArray 3 (0, 0))) (ha : ∀ W, Upd (· = g) w W → Answers W fn #[.pointer (some b)] p)
    (hen : ∀ args w, (callFunc fn args).run Try.prog w = .ok (.enter fn args) w) :
    Calls Try.prog 41 #[.slice (some ⟨g, 0, none⟩) zs.length cap, .func (.func fn) #[] #[.pointer (some b)]] w fun e w' =>
      e = .returned (.slice (some ⟨g, 0, none⟩) (zs.filter fun x => !p x).length cap) ∧ IntRow w' g (zs.filter fun x => !p x) ∧ Upd (· = g) w w' := by
  obtain ⟨n, hn⟩ : ∃ n, zs.length = n := ⟨_, rfl⟩
  have IX := Lib.hid (IndexFunc_any w g cap zs fn b p (by omega) (intRow_of hr) (ha w (Upd.refl _ _)) hen)
  have HA := Lib.hid ha
  have HR := Lib.hid hr
  have HN := Lib.hid hn
  have HT := Lib.hid htl
  rw [hn] at hlen hcap ⊢
  clear ha hr hn htl
  cases hix : zs.findIdx? p with
  | none =>
    have hfin : idxZ p zs = -1 := by unfold idxZ; rw [hix]
    have hfil : (zs.filter fun x => !p x) = zs := by
      rw [List.filter_eq_self]
      intro x hx
      simp [(List.findIdx?_eq_none_iff.1 hix) x hx]
    have HF := Lib.hid hfin
    have HI := Lib.hid hfil
    clear hfin hfil hix
    go_enter Try.func41, Try.ntmps41
    go_wp2_with fail
    have IX' := IX.out
    rw [HN.out] at IX'
    refine IX'.mono ?_
    clear IX'
    rintro e w' ⟨rfl, rfl⟩
    rw [HF.out]
    go_wp2_with fail
    go_ret
    rw [HI.out, HN.out]
    exact ⟨rfl, intRow_of HR.out, Upd.refl _ _⟩
  | some i0 =>
    have hfin : idxZ p zs = i0 := by unfold idxZ; rw [hix]
    obtain ⟨hi0, hpi, hbef⟩ := List.findIdx?_eq_some_iff_getElem.1 hix
    have hi0n : i0 < n := by rw [← HN.out]; exact hi0
    have hst : zs.take i0 = (zs.take (i0 + 1)).filter (fun x => !p x) := by
      rw [List.take_succ_eq_append_getElem hi0, List.filter_append]
      have : (zs.take i0).filter (fun x => !p x) = zs.take i0 := by
        rw [List.filter_eq_self]
        intro x hx
        obtain ⟨j, hj, rfl⟩ := List.getElem_of_mem hx
        have hj' : j < i0 := by rw [List.length_take] at hj; omega
        rw [List.getElem_take]
        have := hbef j hj'
        simpa using this
      rw [this]
      simp [hpi]
    have HF := Lib.hid hfin
    have HS := Lib.hid hst
    have hb0 : ((i0 : Int) == -1) = false := by simp
    clear hfin hst hix hbef hpi
    go_enter Try.func41, Try.ntmps41
    go_wp2_with fail
    have IX' := IX.out
    rw [HN.out] at IX'
    refine IX'.mono ?_
    clear IX'
    rintro e w' ⟨rfl, rfl⟩
    rw [HF.out]
    go_wp2_with fail
    go_loopw [5, 6] (fun vi vj wr => ∃ (i j : Nat) (ys : List Int), i < j ∧ j ≤ n ∧ vi = .int .i64 i ∧ vj = .int .i64 j ∧ Hid (ys.length = n) ∧ Hid (ys.take i = (zs.take j).filter (fun x => !p x)) ∧ Hid (ys.drop j = zs.drop j) ∧
        Hid (wr.heap[g]? = some (.cells (intsV ys ++ tl).toArray 3 (0, 0))) ∧ Hid (Upd (· = g) w wr))
      (fun _ vj _ => n - (intOf vj).toNat)
    case atStart => exact ⟨i0, i0 + 1, zs, by omega, by omega, rfl, by simp, HN.out, HS.out, rfl, HR.out, Upd.refl _ _⟩
    case round =>
      obtain ⟨i, j, ys, hij, hjn, rfl, rfl, hy, h1, h2, hb, hU⟩ := hrel
      by_cases hlt : j < n
      · have hjz : j < zs.length := by rw [HN.out]; exact hlt
        obtain ⟨q1, q2, q3⟩ := del_step (i := i) HN.out hy.out (by omega) hlt h1.out h2.out
        have c : wr.cell? ⟨g, j, none⟩ = some (.int .i64 zs[j]) := by
          have hjy : j < ys.length := by rw [hy.out]; exact hlt
          rw [intRow_of hb.out j hjy]
          rw [List.getElem?_eq_getElem hjy, List.getElem?_eq_getElem hjz] at q1
          rw [Option.some.inj q1]
        obtain ⟨ci, c'⟩ : ∃ ci, wr.cell? ⟨g, i, none⟩ = some (.int .i64 ci) := ⟨_, intRow_of hb.out i (by rw [hy.out]; omega)⟩
        have f : wr.frozen? ⟨g, i, none⟩ = false := frozenOf hb.out _
        obtain ⟨z, hz⟩ : ∃ z, zs[j] = z := ⟨_, rfl⟩
        rw [hz] at c q2 q3
        have Q2 := Lib.hid q2
        have Q3 := Lib.hid q3
        clear q1 q2 q3 hz
        have AW := Lib.hid (HA.out wr hU.out)
        cases hp : p z with
        | true =>
          have HP := Lib.hid hp
          clear hp
          go_wp2_with fail
          refine (AW.out z).mono ?_
          rintro e w' ⟨rfl, rfl⟩
          rw [HP.out]
          go_wp2_with fail
          go_roundw
          case rel => exact ⟨i, j + 1, ys, by omega, by omega, rfl, by simp, hy, (Q2.out HP.out).1, (Q2.out HP.out).2, hb, hU⟩
          case measure => simp [intOf]; omega
        | false =>
          have HP := Lib.hid hp
          clear hp
          go_wp2_with fail
          refine (AW.out z).mono ?_
          rintro e w' ⟨rfl, rfl⟩
          rw [HP.out]
          go_wp2_with fail
          go_roundw
          case rel =>
            refine ⟨i + 1, j + 1, ys.set i z, by omega, by omega, by simp, by simp, ?_, (Q3.out HP.out).1, (Q3.out HP.out).2, ?_, hU.out.setCell _ _ (.inl rfl)⟩
            · show _ = _
              rw [List.length_set]; exact hy.out
            · show _ = _
              rw [setOf_ hb.out, intsV_set _ _ _ _ (by rw [hy.out]; omega)]
          case measure => simp [intOf]; omega
      · obtain rfl : j = n := by omega
        have hfl : (zs.filter fun x => !p x) = ys.take i := by
          rw [h1.out, ← HN.out, List.take_length]
        have hfl2 : (zs.filter fun x => !p x).length = i := by
          rw [hfl, List.length_take, hy.out]; omega
        have FL := Lib.hid hfl
        have FL2 := Lib.hid hfl2
        clear hfl hfl2
        have hin : i ≤ j := by omega
        have hic : ¬ cap = i := by omega
        go_wp2_with (with_reducible refine wpList_clear_sub rfl (.tmp 38) 37 rfl 3 Try.underlying37 (.int .i64 0) Try.zeroInt rfl rfl (some ⟨g, i, none⟩) (j - i) (cap - i) rfl g i (intsV ys ++ tl) 3 hb.out (fun _ => rfl) (by rw [List.length_append, intsV, List.length_map, hy.out]; omega) ?_
                     intro w2 h3 hU3)
        go_ret
        rw [FL2.out, FL.out]
        refine ⟨rfl, ?_, hU.out.grown hU3.out (fun k e => .inl (by injection e with e; exact e.symm))⟩
        intro m hm
        rw [cellOf h3.out]
        have hmi : m < i := by rw [List.length_take] at hm; omega
        have hmy : m < ys.length := by rw [hy.out]; omega
        rw [List.getElem?_toArray, splice_get _ _ _ _ (by rw [List.length_append, intsV, List.length_map, hy.out, List.length_replicate]; omega), if_pos hmi]
        simp [intsV, List.getElem?_append, hmy, List.getElem_take]
end Go.Proofs.Ytljgphmdiflphaa
