/- The walk of DiskCrashBytes. -/
import Derived.Test.YtljgphmdiflphaaDiskL5
import Derived.Test.YtljgphmdiflphaaRowKit
import Derived.Deep.CutBlock
import Derived.Laws.AppendOwnNone
namespace Go.Proofs.Ytljgphmdiflphaa
open Go.RowKit
set_option linter.unusedVariables false

def kb (ks : List Bool) (i : Nat) : Bool := (ks[i]?).getD false
def lastOf (ks : List Bool) (k : Nat) : Int := match ((List.range k).filter (kb ks)).getLast? with | some i => (i : Int) | none => -1
theorem lastOf_succ (ks : List Bool) (k : Nat) : lastOf ks (k + 1) = if kb ks k then (k : Int) else lastOf ks k := by
  unfold lastOf
  rw [List.range_succ, List.filter_append]
  cases h : kb ks k with
  | true => simp [h]
  | false => simp [h]
/-- the numbers of the survivors among the first k, the last one first -/
def numsOf (ks : List Bool) (k : Nat) : List Int := (((List.range k).filter (kb ks)).reverse).map fun (i : Nat) => (i : Int)
theorem numsOf_succ (ks : List Bool) (k : Nat) : numsOf ks (k + 1) = if kb ks k then (k : Int) :: numsOf ks k else numsOf ks k := by
  unfold numsOf
  rw [List.range_succ, List.filter_append]
  cases h : kb ks k with
  | true => simp [h]
  | false => simp [h]
def tw (last torn : Int) (i : Nat) (p : Nat × ByteArray) : Nat × ByteArray := if (i : Int) = last ∧ 0 ≤ torn then (p.1, takeB p.2 torn.toNat) else p
/-- the surviving writes among the first k, the last one of all torn -/
def twOf (ks : List Bool) (last torn : Int) (pe : List (Nat × ByteArray)) (k : Nat) : List (Nat × ByteArray) := ((List.range k).filter (kb ks)).map fun i => tw last torn i (pe[i]!)
theorem twOf_succ (ks : List Bool) (last torn : Int) (pe : List (Nat × ByteArray)) (p : Nat × ByteArray) (k : Nat) (hk : pe.length = k) :
    twOf ks last torn (pe ++ [p]) (k + 1) = if kb ks k then twOf ks last torn pe k ++ [tw last torn k p] else twOf ks last torn pe k := by
  have hc : ((List.range k).filter (kb ks)).map (fun i => tw last torn i ((pe ++ [p])[i]!)) = ((List.range k).filter (kb ks)).map (fun i => tw last torn i (pe[i]!)) := by
    apply List.map_congr_left
    intro i hi
    have hik : i < k := by simpa using (List.mem_filter.1 hi).1
    have e : (pe ++ [p])[i]! = pe[i]! := by
      rw [getElem!_pos (pe ++ [p]) i (by simp; omega), getElem!_pos pe i (by omega), List.getElem_append_left (by omega)]
    rw [e]
  unfold twOf
  rw [List.range_succ, List.filter_append]
  cases h : kb ks k with
  | true =>
    simp only [List.filter_cons, List.filter_nil, h, if_true, List.map_append, List.map_cons, List.map_nil, hc]
    have e : (pe ++ [p])[k]! = p := by rw [getElem!_pos (pe ++ [p]) k (by simp; omega)]; simp [← hk]
    rw [e]
  | false =>
    simp only [List.filter_cons, List.filter_nil, h, List.map_append, hc]
    simp
theorem surv_nums (ks : List Bool) (k : Nat) : survN (numsOf ks k) k = (List.range k).filter (kb ks) := by
  unfold survN
  refine List.filter_congr fun i hi => ?_
  have hik : i < k := by simpa using hi
  have e : ((i : Int) ∈ numsOf ks k) ↔ kb ks i = true := by
    simp only [numsOf, List.mem_map, List.mem_reverse, List.mem_filter, List.mem_range]
    constructor
    · rintro ⟨j, ⟨_, h⟩, e⟩
      have : j = i := by omega
      rw [← this]; exact h
    · intro h
      exact ⟨i, ⟨hik, h⟩, rfl⟩
  cases h : kb ks i with
  | true => exact decide_eq_true (e.2 h)
  | false => exact decide_eq_false (fun x => by rw [e.1 x] at h; cases h)
theorem torn_all (ks : List Bool) (torn : Int) (pe : List (Nat × ByteArray)) (k : Nat) (hk : pe.length = k) : tornW (survW pe (numsOf ks k)) torn = twOf ks (lastOf ks k) torn pe k := by
  have h1 : survW pe (numsOf ks k) = ((List.range k).filter (kb ks)).map fun i => pe[i]! := by
    unfold survW; rw [hk, surv_nums]
  rw [h1]
  unfold twOf lastOf
  generalize hf : (List.range k).filter (kb ks) = fl
  obtain ⟨L, hL⟩ : ∃ L : Int, (match fl.getLast? with | some i => (i : Int) | none => -1) = L := ⟨_, rfl⟩
  rw [hL]
  have hnd : fl.Pairwise (· < ·) := by rw [← hf]; exact List.Pairwise.filter _ List.pairwise_lt_range
  apply List.ext_getElem
  · simp [tornW]
  · intro j h2 h3
    have hj : j < fl.length := by simpa using h3
    have hlast : fl.getLast? = some (fl[fl.length - 1]'(by omega)) := by
      rw [List.getLast?_eq_getElem?]; exact List.getElem?_eq_getElem _
    rw [hlast] at hL
    simp only at hL
    simp only [tornW, List.getElem_mapIdx, List.getElem_map, List.length_map, tw]
    have hiff : (j + 1 = fl.length) ↔ ((fl[j] : Nat) : Int) = L := by
      rw [← hL]
      constructor
      · intro e
        have : j = fl.length - 1 := by omega
        subst this; rfl
      · intro e
        by_cases c : j + 1 = fl.length
        · exact c
        · have := (List.pairwise_iff_getElem.1 hnd) j (fl.length - 1) hj (by omega) (by omega)
          omega
    by_cases c : j + 1 = fl.length ∧ 0 ≤ torn
    · rw [if_pos c, if_pos ⟨hiff.1 c.1, c.2⟩]
    · rw [if_neg c, if_neg (fun x => c ⟨hiff.2 x.1, x.2⟩)]

theorem RC.fresh {w wr wr' : World} {bd n g m m' : Nat} {d : DV} {b : List UInt8} {v v' : Value} {xs xs' : List Value} {F : Nat → Prop} (h : RC w wr bd n g d b v m xs F) (hB : Below wr.heap.size wr wr') (hown : wr'.ownsRow wr.heap.size 3 1 v' m' xs') :
    RC w wr' bd n g d b v' m' xs' F := by
  have hU : Upd (fun _ => False) wr wr' := Upd.of_below hB
  refine ⟨h.dk.upd hU (fun _ _ f => f), hU.at h.row (fun f => f), h.len, ?_, h.ng, fun q e => ?_, h.base, h.gN, h.below.trans (hB.mono h.size)⟩
  · refine ⟨hown.1, ?_⟩
    rcases hown.2 with e | ⟨g, cap, cur, e, hb, r⟩
    · exact .inl e
    · exact .inr ⟨g, cap, cur, e, Nat.le_trans h.size hb, r⟩
  · have := (hown.lt _ e).1
    exact ⟨fun f => absurd (h.dk.lt f) (by omega), fun e' => absurd (ltOf h.row) (by omega)⟩
theorem splice_full (l s : List UInt8) (h : s.length = l.length) : splice l 0 s = s := by simp [splice, h]

theorem cell_add {w : World} {b j : Nat} : w.cell? ((⟨b, 0, none⟩ : Addr).add j) = w.cell? ⟨b, j, none⟩ := by
  unfold Addr.add
  by_cases h : j = 0
  · subst h; rfl
  · simp [h]
/-- Appending an own row of numbers to an own row of numbers. -/
theorem wpList_append_rows {w : World} {ops : Array Oper} {rest : List Oper} {o : Oper} {a : Act} {Q : Exit → Act → World → Prop} (hgd : o.guard = none) (s x : Operand)
    (ho : o.op = .call { callee := .builtin .append, args := #[s, x], argTypes := #[37, 37] }) (base : Nat) (v : Value) (n : Nat) (xs : List Value) (hs : a.eval s = v) (hown : w.ownsRow base 3 1 v n xs)
    (b2 : Nat) (v2 : Value) (m : Nat) (ys : List Int) (hx : a.eval x = v2) (hown2 : w.ownsRow b2 3 1 v2 m (ys.map (Value.int .i64))) (hn : n + m ≤ 1000000) (hbase : base ≤ w.heap.size)
    (h : ∀ v' w', w'.ownsRow base 3 1 v' (n + m) (xs ++ ys.map (Value.int .i64)) → w.grownBy w' v.ownBlock → wpList Try.prog ops Q rest (a.put o.dst v') w') : wpList Try.prog ops Q (o :: rest) a w := by
  obtain ⟨i0, hi, hz0, hz1, hz2⟩ := info_parts Try.infoInt
  have hl : ys.length = m := by have := hown2.1; simpa using this
  rcases hown2.2 with ⟨e, e0⟩ | ⟨g, cap, cur, e, hb, hg, hnc, hc, hsz, htk⟩
  · subst e
    have hy : ys = [] := List.eq_nil_of_length_eq_zero (by omega)
    subst hy
    refine wpList_append_own_none hgd s x 37 ho base 3 i0 1 Try.underlying37 hi v n xs hs hown hx ?_
    have := h v w (by rw [e0]; simpa using hown) (World.grownBy.refl _ _)
    exact this
  · subst e
    refine wpList_append_own w hgd s x 37 ho base 3 i0 (.int .i64 0) 1 8 Try.underlying37 hi hz0 hz1 hz2 rfl (by decide) v n xs hs hown ⟨g, 0, none⟩ m cap (ys.map (Value.int .i64)) hx (by rw [List.length_map]; omega) (fun j u hu => ?_) (fun u hu => ?_) (by simp only [maxLen]; omega) (by omega) hbase (fun v' w' h1 h2 _ => h v' w' h1 h2)
    · rw [cell_add, cellOf hg, ← hu, ← htk, List.getElem?_take]
      have hj : j < m := by
        rw [List.getElem?_eq_some_iff] at hu
        obtain ⟨hj, _⟩ := hu
        rw [List.length_map] at hj; omega
      rw [if_pos (by omega)]
      simp
    · obtain ⟨z, _, rfl⟩ := List.mem_map.1 hu
      rfl

/-- What holds of the disk and of the wanted bytes after k writes. -/
structure PB (ks : List Bool) (L torn : Int) (du : List UInt8) (k : Nat) (d : DV) (b : List UInt8) : Prop where
  off : d.off = false
  left : d.left = 0
  pe : d.pe.length = k
  dur : d.du = du
  want : b = applyW du (twOf ks L torn d.pe k)
theorem PB.none {ks : List Bool} {L torn : Int} {du b : List UInt8} {k : Nat} {d : DV} (h : PB ks L torn du k d b) (q : Nat) (s : ByteArray) (hk : kb ks k = false) : PB ks L torn du (k + 1) (writeD d q s) b :=
  ⟨by simp [writeD, usedOff, h.left], by simp [writeD, usedLeft, h.left], by simp [writeD, h.pe], h.dur, by
    show b = applyW du (twOf ks L torn (d.pe ++ [(q, s)]) (k + 1))
    rw [twOf_succ ks L torn d.pe (q, s) k h.pe, hk]; exact h.want⟩
theorem PB.some {ks : List Bool} {L torn : Int} {du b : List UInt8} {k : Nat} {d : DV} (h : PB ks L torn du k d b) (q : Nat) (s t : ByteArray) (hk : kb ks k = true) (ht : tw L torn k (q, s) = (q, t)) :
    PB ks L torn du (k + 1) (writeD d q s) (splice b q t.data.toList) :=
  ⟨by simp [writeD, usedOff, h.left], by simp [writeD, usedLeft, h.left], by simp [writeD, h.pe], h.dur, by
    show _ = applyW du (twOf ks L torn (d.pe ++ [(q, s)]) (k + 1))
    rw [twOf_succ ks L torn d.pe (q, s) k h.pe, hk, if_pos rfl, applyW_snoc, ht, h.want]⟩
theorem PB.end {ks : List Bool} {torn : Int} {du b : List UInt8} {k : Nat} {d : DV} (h : PB ks (lastOf ks k) torn du k d b) : crashed d (numsOf ks k) torn = ⟨false, 0, b, b, []⟩ := by
  simp only [crashed]
  rw [torn_all ks torn d.pe k h.pe, h.dur, ← h.want]
theorem lastOf_lo (ks : List Bool) (k : Nat) : -1 ≤ lastOf ks k ∧ lastOf ks k < k + 1 := by
  induction k with
  | zero => simp [lastOf]
  | succ k ih =>
    rw [lastOf_succ]
    split <;> omega
theorem numsOf_len (ks : List Bool) (k : Nat) : (numsOf ks k).length ≤ k := by
  have := List.length_filter_le (kb ks) (List.range k)
  simp only [numsOf, List.length_map, List.length_reverse]
  simpa using this
theorem byte48 (k : Nat) : (Value.int .u8 (48 + (k : Int) % 10)) = Value.int .u8 ((UInt8.ofNat (48 + k % 10)).toNat : Int) := by
  have : (UInt8.ofNat (48 + k % 10)).toNat = 48 + k % 10 := by simp; omega
  rw [this]; congr 1

set_option maxRecDepth 100000 in
set_option maxHeartbeats 3200000 in
theorem crashBytes_walk (size torn : Int) (a ka : Option Addr) (len cap klen kcap : Nat) (zs : List (Int × ByteArray × Bool)) (ks : List Bool) (w : World) (hs0 : -9223372036854775808 ≤ size) (hs1 : size ≤ 9223372036854775807) (hlen : len ≤ cap) (hcap : cap ≤ 9223372036854775807)
    (hz : zs.length = len) (hrow : WRow w w.heap.size a zs) (hklen : klen ≤ kcap) (hkcap : kcap ≤ 9223372036854775807) (hks : ks.length = klen) (hkrow : BRow w w.heap.size ka ks) (ht0 : -9223372036854775808 ≤ torn) (ht1 : torn ≤ 9223372036854775807) :
    Calls Try.prog 8 #[.int .i64 size, .slice a len cap, .slice ka klen kcap, .int .i64 torn] w fun e w' => e = .returned (.bool true) ∧ Below w.heap.size w w' := by
  have HKS := Lib.hid hks
  have HKROW := Lib.hid hkrow
  clear hks hkrow
  have hp0 := pickZ_lo size 100 (by omega)
  have hp1 := pickZ_hi size 100 (by omega)
  obtain ⟨p, hp⟩ : ∃ p : Nat, pickZ size 100 = p := Int.eq_ofNat_of_zero_le hp0
  have hpn : p < 100 := by omega
  have HP := Lib.hid hp
  have HZ := Lib.hid hz
  have HROW := Lib.hid hrow
  clear hp0 hp1 hp hz hrow
  obtain ⟨n, hn⟩ : ∃ n : Nat, 1 + p = n := ⟨_, rfl⟩
  have hn1 : 1 ≤ n := by omega
  have hn2 : n ≤ 100 := by omega
  have HN := Lib.hid hn
  clear hn
  have hmk := mkBytes n (by omega)
  go_enter Try.func8, Try.ntmps8
  go_wp2_with fail
  refine (sane_any w).mono ?_
  rintro e w1 ⟨rfl, b1⟩
  have B1 := Lib.hid b1
  clear b1
  go_wp2_with fail
  refine (pick_any size 100 w1 (by omega) (by omega) hs0 hs1).mono ?_
  rintro e w' ⟨rfl, rfl⟩
  rw [HP.out]
  go_wp2_with fail
  rw [show (1 + (p : Int)) = (n : Int) from by have := HN.out; omega]
  refine (newF w1 n hn1 (by omega)).mono ?_
  rintro e w2 ⟨bd, rfl, ⟨F, g2, f2⟩, b2⟩
  have G2 := Lib.hid g2
  have F2 := Lib.hid f2
  have B2 := Lib.hid b2
  clear g2 f2 b2
  go_wp2_with fail
  have hR := RB.start G2.out F2.out B1.out B2.out
  have HR := Lib.hid hR
  clear hR hmk
  obtain ⟨g, hg⟩ : ∃ g, w2.heap.size = g := ⟨_, rfl⟩
  have HG := Lib.hid hg
  rw [hg]
  clear hg
  go_loopw [13] (fun vi wr => ∃ (k : Nat) (b : List UInt8), k ≤ n ∧ vi = .int .i64 k ∧ Hid (RB w wr bd n g 0 (newD n) b F)) (fun vi _ => n - (intOf vi).toNat)
  case atStart => exact ⟨0, _, by omega, rfl, by rw [← HG.out]; exact HR.out⟩
  case round =>
    obtain ⟨k, b, hk, rfl, hB⟩ := hrel
    by_cases hlt : k < n
    · have hkb : k < b.length := by rw [hB.out.len]; exact hlt
      obtain ⟨x0, c0⟩ : ∃ x0 : Int, wr.cell? ⟨g, k, none⟩ = some (.int .u8 x0) := ⟨(b[k].toNat : Int), by rw [cellOf hB.out.row]; simp [bytesV, hkb]⟩
      have f0 : wr.frozen? ⟨g, k, none⟩ = false := frozenOf hB.out.row _
      go_wp2_with fail
      go_roundw
      case rel =>
        refine ⟨k + 1, b.set k (UInt8.ofNat (48 + k % 10)), by omega, by simp, hB.out.put ?_ (by rw [List.length_set]; exact hB.out.len) ((Upd.refl _ wr).setCell _ _ (.inl rfl))⟩
        rw [setOf_ hB.out.row, byte48, bytesV_set]
      case measure => simp [intOf]; omega
    · obtain rfl : k = n := by omega
      have hcv := hB.out.conv (by omega)
      have hbn : b.length = k := hB.out.len
      have HBN := Lib.hid hbn
      clear hbn
      go_wp2_with fail
      clear hcv
      have hsz : 0 + (⟨b.toArray⟩ : ByteArray).size ≤ k := by show 0 + b.toArray.size ≤ k; rw [List.size_toArray, HBN.out]; omega
      refine (writeF hB.out.dk rfl 0 ⟨b.toArray⟩ hsz (by simp [newD])).mono ?_
      rintro e w5 ⟨rfl, F5, d5, m5⟩
      have HB5 := Lib.hid (hB.out.move (k' := 1) d5 m5 rfl rfl (by simp [writeD, newD]))
      clear d5 m5 hsz
      go_wp2_with fail
      refine (syncF HB5.out.dk HB5.out.off).mono ?_
      rintro e w6 ⟨rfl, F6, d6, m6⟩
      have hv : (writeD (newD k) 0 ⟨b.toArray⟩).vi = b := splice_full _ _ (by simp [newD]; exact HBN.out)
      have HB6 := Lib.hid (HB5.out.move (k' := 0) d6 m6 rfl rfl (Nat.zero_le _))
      clear d6 m6
      generalize hd6 : syncD (writeD (newD k) 0 ⟨b.toArray⟩) = d0 at HB6
      have hd0 : d0 = ⟨false, 0, b, b, []⟩ := by rw [← hd6]; simp only [syncD]; rw [hv]; rfl
      clear hd6 hv
      obtain ⟨n, hkn⟩ : ∃ n, n = k := ⟨k, rfl⟩
      have HRC := Lib.hid (show RC w w6 bd n g d0 b (.slice none 0 0) 0 [] F6 from by
        have h6 := HB6.out
        rw [hkn]
        exact ⟨h6.dk, h6.row, h6.len, World.ownsRow_nil _ _ _ _, h6.ng, fun q e => by (cases e), h6.base, h6.gN, h6.below⟩)
      rw [← hkn] at hn1 hn2 ⊢
      obtain ⟨K, hK⟩ : ∃ K : Nat, K = min len 20 := ⟨_, rfl⟩
      have HD0 := Lib.hid hd0
      have HKK := Lib.hid hK
      have hKl : K ≤ len := by omega
      have hK20 : K ≤ 20 := by omega
      clear hd0 hkn hK
      go_upto_block 2 with fail
      go_cut [14] (fun vl wr => vl = .int .i64 (lastOf ks K) ∧ Hid (RC w wr bd n g d0 b (.slice none 0 0) 0 [] F6))
      case first =>
        go_wp2_with fail
        go_loopw [14, 15] (fun vl vi wr => ∃ j : Nat, j ≤ K ∧ vi = .int .i64 j ∧ vl = .int .i64 (lastOf ks j) ∧ Hid (RC w wr bd n g d0 b (.slice none 0 0) 0 [] F6)) (fun _ vi _ => K - (intOf vi).toNat)
        case atStart => exact ⟨0, by omega, rfl, rfl, HRC.out⟩
        case round =>
          obtain ⟨j, hj, rfl, rfl, hB⟩ := hrel
          have hkk := HKK.out
          by_cases hlt : j < K
          · have hj1 : j < len := by omega
            have hj2 : (j : Int) < 20 := by omega
            have hls := lastOf_succ ks j
            clear hkk
            by_cases hjk : j < klen
            · have hjk' : j < ks.length := by rw [HKS.out]; exact hjk
              obtain ⟨gk, ok, hka, hgk, ck⟩ := HKROW.out.cell j hjk'
              have ck' := (hB.out.below.cell (p := ⟨gk, ok + j, none⟩) hgk).trans ck
              have hkb : kb ks j = ks[j] := by simp [kb, hjk']
              subst hka
              rw [hkb] at hls
              generalize ks[j] = z at *
              have HLS := Lib.hid hls
              clear ck hkb hls hjk'
              cases z with
              | true =>
                go_wp2_with fail
                go_roundw
                case rel => exact ⟨j + 1, by omega, by simp, by rw [HLS.out]; rfl, hB⟩
                case measure => simp [intOf]; omega
              | false =>
                go_wp2_with fail
                go_roundw
                case rel => exact ⟨j + 1, by omega, by simp, by rw [HLS.out]; rfl, hB⟩
                case measure => simp [intOf]; omega
            · have hkb : kb ks j = false := by simp [kb, HKS.out, Nat.le_of_not_lt hjk]
              rw [hkb] at hls
              have HLS := Lib.hid hls
              clear hkb hls
              go_wp2_with fail
              go_roundw
              case rel => exact ⟨j + 1, by omega, by simp, by rw [HLS.out]; rfl, hB⟩
              case measure => simp [intOf]; omega
          · obtain rfl : j = K := by omega
            by_cases hl : j < len
            · have h60 : ¬ (j : Int) < 20 := by omega
              clear hkk hlt
              go_wp2_with fail
              go_meet
              exact ⟨rfl, hB⟩
            · clear hkk hlt
              go_wp2_with fail
              go_meet
              exact ⟨rfl, hB⟩
      case rest =>
        obtain ⟨rfl, hC⟩ := hcut
        obtain ⟨hL1, hL2⟩ := lastOf_lo ks K
        obtain ⟨L, hL⟩ : ∃ L, lastOf ks K = L := ⟨_, rfl⟩
        rw [hL] at hL1 hL2 ⊢
        have HL := Lib.hid hL
        clear hL
        have HP0 := Lib.hid (show PB ks L torn b 0 d0 b from by rw [HD0.out]; exact ⟨rfl, rfl, rfl, rfl, rfl⟩)
        go_wp2_with fail
        go_loopw [16, 17] (fun vn vi wr => ∃ (j : Nat) (d : DV) (b' : List UInt8) (F : Nat → Prop), j ≤ K ∧ vi = .int .i64 j ∧ Hid (PB ks L torn b j d b') ∧ Hid (RC w wr bd n g d b' vn (numsOf ks j).length ((numsOf ks j).map (Value.int .i64)) F)) (fun _ vi _ => K - (intOf vi).toNat)
        case atStart => exact ⟨0, d0, b, F6, by omega, rfl, HP0.out, hC.out⟩
        case round =>
          obtain ⟨j, d, b', F', hj, rfl, hP, hB⟩ := hrel
          have hkk := HKK.out
          by_cases hlt : j < K
          · have hj1 : j < len := by omega
            have hj2 : (j : Int) < 20 := by omega
            have hjz : j < zs.length := by rw [HZ.out]; exact hj1
            have hrw := HROW.out.below hB.out.below
            obtain ⟨gl, off, ha, hgl, c0, c1, c2⟩ := hrw.cell j hjz
            obtain ⟨f0, f1, f2⟩ := hrw.fit j hjz
            subst ha
            generalize zs[j] = z at *
            obtain ⟨x, s, bb⟩ := z
            simp only at c0 c1 c2 f0 f1 f2
            clear hrw hjz hkk
            have hnl := numsOf_len ks j
            go_wp2_with fail
            refine (fits_any x s bb n wr f0 f1 f2 (by omega)).mono ?_
            rintro e w7 ⟨q, rfl, hq, hqn, b7⟩
            have HB7 := Lib.hid (hB.out.keep b7)
            clear hB hq b7 c0 c1 c2
            have hs' : q + (takeB s (n - q)).size ≤ n := by have := takeB_fit s (n - q); omega
            generalize takeB s (n - q) = s' at hs' ⊢
            have HB7' := Lib.hid (HB7.out.alloc (.cells #[.int .i64 (q : Int), .string s', .bool bb] 53))
            have hBF : ¬ F' w7.heap.size := fun f => absurd (HB7.out.dk.lt f) (by omega)
            have hBg : g < w7.heap.size := ltOf HB7.out.row
            have e0 : (w7.alloc (.cells #[.int .i64 (q : Int), .string s', .bool bb] 53)).heap[w7.heap.size]? = some (.cells #[.int .i64 (q : Int), .string s', .bool bb] 53 (0, 0)) := allocAt _ rfl
            have E7 := Lib.hid e0
            clear e0
            go_wp2_with fail
            refine (writeF HB7'.out.dk hP.out.off q s' hs' (by have := hP.out.pe; omega)).mono ?_
            rintro e w8 ⟨rfl, F7, d8, m8⟩
            have E8 := Lib.hid (m8.1.at E7.out hBF)
            have HB8 := Lib.hid (HB7'.out.move d8 m8)
            have x0 : w8.cell? ⟨w7.heap.size, 0, none⟩ = some (.int .i64 (q : Int)) := cellOf E8.out 0
            have x1 : w8.cell? ⟨w7.heap.size, 1, none⟩ = some (.string s') := cellOf E8.out 1
            clear d8 m8
            have KEEPNO : kb ks j = false → Hid (RC w w8 bd n g (writeD d q s') b' u16 (numsOf ks (j + 1)).length ((numsOf ks (j + 1)).map (Value.int .i64)) F7) := fun h => by
              rw [numsOf_succ, h]; exact HB8.out
            have hns := numsOf_succ ks j
            by_cases hjk : j < klen
            · have hjk' : j < ks.length := by rw [HKS.out]; exact hjk
              obtain ⟨gk, ok, hka, hgk, ck⟩ := HKROW.out.cell j hjk'
              have ck' := (HB8.out.below.cell (p := ⟨gk, ok + j, none⟩) hgk).trans ck
              have hkb : kb ks j = ks[j] := by simp [kb, hjk']
              subst hka
              generalize ks[j] = z at *
              clear ck hjk'
              cases z with
              | true =>
                rw [hkb, if_pos rfl] at hns
                have HN := Lib.hid hns
                have HKB := Lib.hid hkb
                clear hns hkb KEEPNO
                have hN := HB8.out.size
                have hlit : (w8.alloc (.cells #[.int .i64 (j : Int)] 3)).ownsRow w8.heap.size 3 1 (.slice (some ⟨w8.heap.size, 0, none⟩) 1 1) 1 [.int .i64 (j : Int)] :=
                  ⟨rfl, .inr ⟨w8.heap.size, 1, _, rfl, Nat.le_refl _, allocAt _ rfl, Nat.le_refl _, by simp only [maxLen]; omega, rfl, rfl⟩⟩
                have HLIT := Lib.hid hlit
                clear hlit
                go_upto_region 28 with (at_builtin; refine wpList_append_rows rfl _ _ rfl w8.heap.size _ _ _ rfl HLIT.out w.heap.size _ _ (numsOf ks j) rfl (HB8.out.own.alloc _) (by omega) (by simp) ?_; intro v' w9 hown' hgrow)
                have HB9 := Lib.hid (HB8.out.fresh (((Below.refl _ w8).alloc (Nat.le_refl _) (.cells #[.int .i64 (j : Int)] 3)).grown hgrow (by simp) (fun k e => (HLIT.out.lt _ e).1)) hown')
                have E9 := Lib.hid ((show w9.heap[w7.heap.size]? = w8.heap[w7.heap.size]? from by
                  have hw78 := ltOf E8.out
                  rw [hgrow.block _ (by simp; omega) (fun e => by have e' : some w7.heap.size = some w8.heap.size := e; injection e' with e'; omega), allocOld hw78]).trans E8.out)
                clear hown' hgrow x0 x1
                have y0 : w9.cell? ⟨w7.heap.size, 0, none⟩ = some (.int .i64 (q : Int)) := cellOf E9.out 0
                have y1 : w9.cell? ⟨w7.heap.size, 1, none⟩ = some (.string s') := cellOf E9.out 1
                by_cases htr : (j : Int) = L ∧ 0 ≤ torn
                · obtain ⟨hjL, htn⟩ := htr
                  obtain ⟨tn, rfl⟩ : ∃ tn : Nat, torn = tn := Int.eq_ofNat_of_zero_le htn
                  have htq : tw L (tn : Int) j (q, s') = (q, takeB s' tn) := by
                    unfold tw; rw [if_pos ⟨hjL, htn⟩]; rfl
                  have HTQ := Lib.hid htq
                  have hst : q + (takeB s' tn).size ≤ n := by rw [takeB_size]; omega
                  have hs63 : s'.size ≤ 9223372036854775807 := by omega
                  have hbL : ((j : Int) == L) = true := by simpa using hjL
                  clear htq
                  go_wp2_with fail
                  refine (cut_any s' tn w9 hs63 ht1).mono ?_
                  rintro e w' ⟨rfl, rfl⟩
                  go_wp2_with fail
                  refine (put_any g q n (takeB s' tn) b' _ HB9.out.row HB9.out.len hst (by omega)).mono ?_
                  rintro e w10 ⟨rfl, r10, u10⟩
                  have HB10 := Lib.hid (HB9.out.put r10 (by rw [length_splice]; exact HB9.out.len; rw [← Lib.size_eq, HB9.out.len]; exact hst) u10)
                  clear r10 u10
                  have hPs := Lib.hid (hP.out.some q s' (takeB s' tn) HKB.out HTQ.out)
                  go_wp2_with fail
                  go_roundw
                  case rel =>
                    refine ⟨j + 1, _, _, F7, by omega, by congr 1 <;> omega, hPs.out, ?_⟩
                    rw [HN.out]
                    have h10 := HB10.out
                    rw [Nat.add_comm] at h10
                    exact h10
                  case measure => simp [intOf]; omega
                · have htq : tw L torn j (q, s') = (q, s') := by
                    unfold tw; rw [if_neg htr]
                  have HTQ := Lib.hid htq
                  clear htq
                  by_cases hjL : (j : Int) = L
                  · have hbL : ((j : Int) == L) = true := by simpa using hjL
                    have htn : ¬ 0 ≤ torn := fun x => htr ⟨hjL, x⟩
                    clear htr
                    go_wp2_with fail
                    refine (put_any g q n s' b' _ HB9.out.row HB9.out.len hs' (by omega)).mono ?_
                    rintro e w10 ⟨rfl, r10, u10⟩
                    have HB10 := Lib.hid (HB9.out.put r10 (by rw [length_splice]; exact HB9.out.len; rw [← Lib.size_eq, HB9.out.len]; exact hs') u10)
                    clear r10 u10
                    have hPs := Lib.hid (hP.out.some q s' s' HKB.out HTQ.out)
                    go_wp2_with fail
                    go_roundw
                    case rel =>
                      refine ⟨j + 1, _, _, F7, by omega, by congr 1 <;> omega, hPs.out, ?_⟩
                      rw [HN.out]
                      have h10 := HB10.out
                      rw [Nat.add_comm] at h10
                      exact h10
                    case measure => simp [intOf]; omega
                  · have hbL : ((j : Int) == L) = false := by simpa using hjL
                    clear htr
                    go_wp2_with fail
                    refine (put_any g q n s' b' _ HB9.out.row HB9.out.len hs' (by omega)).mono ?_
                    rintro e w10 ⟨rfl, r10, u10⟩
                    have HB10 := Lib.hid (HB9.out.put r10 (by rw [length_splice]; exact HB9.out.len; rw [← Lib.size_eq, HB9.out.len]; exact hs') u10)
                    clear r10 u10
                    have hPs := Lib.hid (hP.out.some q s' s' HKB.out HTQ.out)
                    go_wp2_with fail
                    go_roundw
                    case rel =>
                      refine ⟨j + 1, _, _, F7, by omega, by congr 1 <;> omega, hPs.out, ?_⟩
                      rw [HN.out]
                      have h10 := HB10.out
                      rw [Nat.add_comm] at h10
                      exact h10
                    case measure => simp [intOf]; omega
              | false =>
                rw [hkb] at KEEPNO
                have HKB := Lib.hid hkb
                have KN := KEEPNO rfl
                clear hns hkb KEEPNO
                go_wp2_with fail
                go_roundw
                case rel => exact ⟨j + 1, _, _, F7, by omega, by simp, hP.out.none q s' HKB.out, KN⟩
                case measure => simp [intOf]; omega
            · have hkb : kb ks j = false := by simp [kb, HKS.out, Nat.le_of_not_lt hjk]
              have HKB := Lib.hid hkb
              have KN := KEEPNO hkb
              clear hns hkb KEEPNO
              go_wp2_with fail
              go_roundw
              case rel => exact ⟨j + 1, _, _, F7, by omega, by simp, hP.out.none q s' HKB.out, KN⟩
              case measure => simp [intOf]; omega
          · obtain rfl : j = K := by omega
            obtain ⟨A, c, hv⟩ := own_form hB.out.own
            subst hv
            have hI := IntsAt.of_own (zs := numsOf ks j) hB.out.own
            have HII := Lib.hid hI
            have hnl := numsOf_len ks j
            have hend := hP.out
            rw [← HL.out] at hend
            have HE := Lib.hid hend.end
            clear hend hI
            by_cases hl : j < len
            · have h60 : ¬ (j : Int) < 20 := by omega
              clear hkk hlt
              go_wp2_with fail
              refine (crashF hB.out.dk _ A _ c HII.out (by omega) (by rw [hP.out.pe]; omega) torn ht0 ht1).mono ?_
              rintro e w7 ⟨rfl, F7, d7, m7⟩
              rw [HE.out] at d7
              have HB7 := Lib.hid (hB.out.move d7 m7)
              have hcv := HB7.out.conv (by omega)
              clear d7 m7
              go_wp2_with fail
              refine (readF_all HB7.out.dk rfl).mono ?_
              rintro e w' ⟨rfl, rfl⟩
              go_wp2_with fail
              go_ret
              exact ⟨rfl, HB7.out.below⟩
            · clear hkk hlt
              go_wp2_with fail
              refine (crashF hB.out.dk _ A _ c HII.out (by omega) (by rw [hP.out.pe]; omega) torn ht0 ht1).mono ?_
              rintro e w7 ⟨rfl, F7, d7, m7⟩
              rw [HE.out] at d7
              have HB7 := Lib.hid (hB.out.move d7 m7)
              have hcv := HB7.out.conv (by omega)
              clear d7 m7
              go_wp2_with fail
              refine (readF_all HB7.out.dk rfl).mono ?_
              rintro e w' ⟨rfl, rfl⟩
              go_wp2_with fail
              go_ret
              exact ⟨rfl, HB7.out.below⟩
end Go.Proofs.Ytljgphmdiflphaa
