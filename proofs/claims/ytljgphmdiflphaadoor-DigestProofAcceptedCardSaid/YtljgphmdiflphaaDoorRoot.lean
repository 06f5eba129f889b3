/- Root: the stack of complete parts. -/
import Derived.Test.YtljgphmdiflphaaDoorBack
import Derived.RangeFuncCalls
import Derived.Deep.RegionLaw
import Derived.Deep.RegionHeld3
import Derived.Deep.AppendLies
namespace Go.Proofs.YtljgphmdiflphaaDoor
open Go.RowKit Go.Shelf
set_option linter.unusedVariables false
attribute [local go_sem] Oper.semAt_some

def empB : ByteArray := sumB ⟨#[]⟩
def rootB (l : List ByteArray) : ByteArray := Dig.root leafB nodeB empB l
def stkB (l : List ByteArray) : List (ByteArray × Nat) := Dig.stk leafB nodeB empB l

theorem Tryd.infoStr : (Tryd.prog.info? 9).map (fun i => (i.zero, i.size, i.bytes)) = some (some (.string ByteArray.empty), 1, 16) := by kernel_rfl
theorem Tryd.infoInt : (Tryd.prog.info? 3).map (fun i => (i.zero, i.size, i.bytes)) = some (some (.int .i64 0), 1, 8) := by kernel_rfl

def strV (l : List ByteArray) : List Value := l.map Value.string
def natV (l : List Nat) : List Value := l.map fun (n : Nat) => Value.int .i64 (n : Int)

/-- The stack as two rows of the call's own. -/
structure RootS (w : World) (st : List (ByteArray × Nat)) (v1 v2 : Value) (wr : World) : Prop where
  r1 : wr.ownsRow w.heap.size 9 1 v1 st.length (strV (st.map (·.1)))
  r2 : wr.ownsRow w.heap.size 3 1 v2 st.length (natV (st.map (·.2)))
  below : Below w.heap.size w wr
  dig : ∀ x ∈ st, x.1.size = 32
  le : ∀ x ∈ st, x.2 ≤ 1000000
theorem own_ne {w : World} {b1 b2 s1 s2 n1 n2 : Nat} {e1 e2 : TypeId} {v1 v2 : Value} {x1 x2 : List Value} (h1 : w.ownsRow b1 e1 s1 v1 n1 x1) (h2 : w.ownsRow b2 e2 s2 v2 n2 x2) (he : e1 ≠ e2) : v1.ownBlock = none ∨ v1.ownBlock ≠ v2.ownBlock := by
  rcases h1.2 with ⟨rfl, _⟩ | ⟨g1, c1, cur1, rfl, _, hg1, _⟩
  · exact .inl rfl
  · rcases h2.2 with ⟨rfl, _⟩ | ⟨g2, c2, cur2, rfl, _, hg2, _⟩
    · exact .inr (by simp [Value.ownBlock])
    · refine .inr fun e => ?_
      have e' : g1 = g2 := by simpa [Value.ownBlock] using e
      subst e'
      exact ty_ne hg1 hg2 he rfl
theorem own_take {w : World} {base n k : Nat} {e : TypeId} {g cap : Nat} {xs : List Value} (h : w.ownsRow base e 1 (.slice (some ⟨g, 0, none⟩) n cap) n xs) (hk : k ≤ n) : w.ownsRow base e 1 (.slice (some ⟨g, 0, none⟩) k cap) k (xs.take k) := by
  have hl := h.1
  rw [Nat.mul_one] at hl
  refine ⟨by rw [List.length_take]; omega, .inr ?_⟩
  rcases h.2 with ⟨e0, _⟩ | ⟨g', c', cur, e1, hb, hg, hn, hc, hs, ht⟩
  · cases e0
  · injection e1 with e1 e2 e3
    injection e1 with e1
    injection e1 with e1
    subst e1 e3
    rw [Nat.mul_one] at ht
    exact ⟨g, cap, cur, rfl, hb, hg, by omega, hc, hs, by rw [← ht, List.take_take, Nat.mul_one, Nat.min_eq_left hk]⟩
theorem own_upd {S : Nat → Prop} {w w' : World} {base n s : Nat} {e : TypeId} {v : Value} {xs : List Value} (h : w.ownsRow base e s v n xs) (hu : Upd S w w') (hS : ∀ g, v.ownBlock = some g → ¬ S g) : w'.ownsRow base e s v n xs := by
  refine ⟨h.1, h.2.imp id ?_⟩
  rintro ⟨g, c, cur, rfl, hb, hg, r⟩
  exact ⟨g, c, cur, rfl, hb, hu.at hg (hS g rfl), r⟩
theorem own_below {w w' : World} {base n s : Nat} {e : TypeId} {v : Value} {xs : List Value} (h : w.ownsRow base e s v n xs) (hu : Below w.heap.size w w') : w'.ownsRow base e s v n xs :=
  own_upd (S := fun _ => False) h (Upd.of_below hu) (fun _ _ h => h)
theorem own_form {w : World} {base n s : Nat} {e : TypeId} {v : Value} {xs : List Value} (h : w.ownsRow base e s v n xs) (hn : 0 < n) : ∃ g cap, v = .slice (some ⟨g, 0, none⟩) n cap ∧ base ≤ g ∧ g < w.heap.size ∧ n ≤ cap ∧ cap ≤ maxLen ∧ ∀ j u, xs[j]? = some u → w.cell? ⟨g, j, none⟩ = some u := by
  rcases h.2 with ⟨rfl, _⟩ | ⟨g, c, cur, rfl, hb, hg, h1, h2, _⟩
  · omega
  · refine ⟨g, c, rfl, hb, ltOf hg, h1, h2, fun j u hj => ?_⟩
    have := h.cells (g := g) rfl j u hj
    have ha : (⟨g, 0, none⟩ : Addr).add j = ⟨g, j, none⟩ := by unfold Addr.add; split <;> simp_all
    rwa [ha] at this

theorem own2 {w W1 W2 : World} {o o' : Obj} {n : Nat} {v1 v2 : Value} {x1 x2 : List Value} (R1 : W1.ownsRow w.heap.size 9 1 v1 n x1) (R2 : W1.ownsRow w.heap.size 3 1 v2 n x2) (hg : (W1.alloc o).grownBy W2 v1.ownBlock) :
    (W2.alloc o').ownsRow w.heap.size 3 1 v2 n x2 :=
  (((R2.alloc o).kept hg (own_ne R2 R1 (by decide)))).alloc o'

theorem RootS.drewN {w wr : World} {st : List (ByteArray × Nat)} {v1 v2 : Value} (h : RootS w st v1 v2 wr) (n : Nat) : RootS w st v1 v2 (wr.drewN n) :=
  ⟨h.r1, h.r2, ⟨h.below.os, h.below.tape, h.below.output, h.below.size, h.below.block⟩, h.dig, h.le⟩
theorem RootS.merged {w Wa W6 W7 : World} {cur p : List (ByteArray × Nat)} {u1 u2 : Value} {x y : ByteArray} {m q g3 cap3 g2 cap2 g5 cap5 : Nat} {o : Obj} (h : RootS w cur u1 u2 Wa) (hc : cur = p ++ [(x, m), (y, m)]) (hq : p.length = q)
    (R1 : W6.ownsRow w.heap.size 9 1 (.slice (some ⟨g3, 0, none⟩) (q + 1) cap3) (q + 1) (strV (p.map (·.1)) ++ [.string (nodeB x y)])) (B : Below w.heap.size w W6)
    (R2 : W7.ownsRow w.heap.size 3 1 (.slice (some ⟨g5, 0, none⟩) (q + 1) cap5) (q + 1) (natV (p.map (·.2)) ++ [.int .i64 (2 * (m : Int))]))
    (R3 : W6.ownsRow w.heap.size 3 1 (.slice (some ⟨g2, 0, none⟩) q cap2) q (natV (p.map (·.2)))) (hg : (W6.alloc o).drew.grownBy W7 (Value.slice (some ⟨g2, 0, none⟩) q cap2).ownBlock) (hm : 2 * m ≤ 1000000) :
    RootS w (p ++ [(nodeB x y, 2 * m)]) (.slice (some ⟨g3, 0, none⟩) (q + 1) cap3) (.slice (some ⟨g5, 0, none⟩) (q + 1) cap5) W7 := by
  subst hc hq
  have R1' := ((R1.alloc o).drew).kept hg (own_ne R1 R3 (by decide))
  refine ⟨by simpa [strV] using R1', by simpa [natV] using R2, ?_, ?_, ?_⟩
  · exact ((B.alloc B.size o).drew).grown hg (by have := B.size; simp; omega) (fun k e => (R3.lt k e).1)
  · intro z hz
    rcases List.mem_append.1 hz with hz | hz
    · exact h.dig z (by simp [hz])
    · obtain rfl := List.mem_singleton.1 hz; exact sumB_size _
  · intro z hz
    rcases List.mem_append.1 hz with hz | hz
    · exact h.le z (by simp [hz])
    · obtain rfl := List.mem_singleton.1 hz; exact hm
theorem RootS.pushed {w wr W1 W2 W3 : World} {st : List (ByteArray × Nat)} {u3 u4 v3 v4 : Value} {x : ByteArray} {o o' : Obj} (h : RootS w st u3 u4 wr) (R1 : W1.ownsRow w.heap.size 9 1 u3 st.length (strV (st.map (·.1)))) (R2 : W1.ownsRow w.heap.size 3 1 u4 st.length (natV (st.map (·.2))))
    (B1 : Below w.heap.size w W1) (O1 : W2.ownsRow w.heap.size 9 1 v3 (st.length + 1) (strV (st.map (·.1)) ++ [.string (leafB x)])) (G1 : (W1.alloc o).grownBy W2 u3.ownBlock)
    (O2 : W3.ownsRow w.heap.size 3 1 v4 (st.length + 1) (natV (st.map (·.2)) ++ [.int .i64 1])) (G2 : (W2.alloc o').grownBy W3 u4.ownBlock) : RootS w (st ++ [(leafB x, 1)]) v3 v4 W3 := by
  have O1' := (O1.alloc o').kept G2 (own_ne (O1.alloc o') (own2 R1 R2 G1) (by decide))
  have hb2 : Below w.heap.size w W2 := (B1.alloc B1.size o).grown G1 (by have := B1.size; simp; omega) (fun k e => (R1.lt k e).1)
  refine ⟨by simpa [strV] using O1', by simpa [natV] using O2, (hb2.alloc hb2.size o').grown G2 (by have := hb2.size; simp; omega) (fun k e => (R2.lt k e).1), ?_, ?_⟩
  · intro y hy
    rcases List.mem_append.1 hy with hy | hy
    · exact h.dig y hy
    · obtain rfl := List.mem_singleton.1 hy; exact sumB_size _
  · intro y hy
    rcases List.mem_append.1 hy with hy | hy
    · exact h.le y hy
    · obtain rfl := List.mem_singleton.1 hy; simp

theorem merges_inv {s s' : List (ByteArray × Nat)} (h : Dig.Merges nodeB s s') : (s = s' ∧ ∀ p a b m, s ≠ p ++ [(a, m), (b, m)]) ∨ ∃ p a b m, s = p ++ [(a, m), (b, m)] ∧ Dig.Merges nodeB (p ++ [(nodeB a b, 2 * m)]) s' := by
  cases h with
  | stop h => exact .inl ⟨rfl, h⟩
  | @step p a b m _ h => exact .inr ⟨p, a, b, m, rfl, h⟩
theorem snoc_cases {α : Type} (l : List α) : l = [] ∨ ∃ p x, l = p ++ [x] := by
  rcases List.eq_nil_or_concat l with h | ⟨p, x, h⟩
  · exact .inl h
  · exact .inr ⟨p, x, by rw [h]; simp⟩
theorem foldR_snoc (sL : List (ByteArray × Nat)) (r : ByteArray × Nat) : Dig.foldR nodeB empB (sL ++ [r]) = (sL.map (·.1)).foldr nodeB r.1 := by
  induction sL with
  | nil => rfl
  | cons x sL ih =>
    cases sL with
    | nil => rfl
    | cons y sL => rw [List.cons_append, List.cons_append, Dig.foldR, ← List.cons_append, ih]; rfl
/-- the nodes from the end of a list on -/
def backF (L : List ByteArray) (pre : List (Fin L.length)) (r : ByteArray) : ByteArray := pre.foldl (fun o x => nodeB L[x] o) r
theorem backF_snoc (L : List ByteArray) (pre : List (Fin L.length)) (x : Fin L.length) (r : ByteArray) : backF L (pre ++ [x]) r = nodeB L[x] (backF L pre r) := by simp [backF]
theorem backF_size (L : List ByteArray) (_ : ∀ x : Fin L.length, L[x].size = 32) (pre : List (Fin L.length)) (r : ByteArray) (hr : r.size = 32) : (backF L pre r).size = 32 := by
  rcases snoc_cases pre with rfl | ⟨p, x, rfl⟩
  · exact hr
  · rw [backF_snoc]; exact sumB_size _
theorem map_finRange (L : List ByteArray) : (List.finRange L.length).map (fun x => L[x]) = L := by
  apply List.ext_getElem
  · simp
  · intro i h1 h2; simp
theorem backF_all (L : List ByteArray) (r : ByteArray) : backF L (List.finRange L.length).reverse r = L.foldr nodeB r := by
  unfold backF
  rw [List.foldl_reverse]
  have := List.foldr_map (f := fun x : Fin L.length => L[x]) (g := nodeB) (l := List.finRange L.length) (init := r)
  rw [map_finRange] at this
  exact this.symm
theorem two_last {α : Type} (l : List α) : l.length ≤ 1 ∨ ∃ p x y, l = p ++ [x, y] := by
  by_cases h : l.length ≤ 1
  · exact .inl h
  · refine .inr ⟨l.take (l.length - 2), l[l.length - 2]'(by omega), l[l.length - 1]'(by omega), ?_⟩
    apply List.ext_getElem
    · simp; omega
    · intro i h1 h2
      rw [List.getElem_append]
      simp only [List.length_take, List.getElem_take]
      split
      · rfl
      · have : i = l.length - 2 ∨ i = l.length - 1 := by omega
        rcases this with rfl | rfl
        · simp [show min (l.length - 2) l.length = l.length - 2 by omega]
        · simp [show min (l.length - 2) l.length = l.length - 2 by omega, show l.length - 1 - (l.length - 2) = 1 by omega]

set_option maxRecDepth 100000 in
set_option maxHeartbeats 4000000 in
theorem Root_any (w : World) (sv : Value) (l : List ByteArray) (hsl : SL w sv l) (hlen : l.length ≤ 1000000) (hs : ∀ s ∈ l, s.size ≤ 800000) (hR : RoundLaid w) :
    Calls Tryd.prog 20 #[sv] w fun e w' => e = .returned (.string (rootB l)) ∧ Below w.heap.size w w' := by
  obtain ⟨i9, hi9, hz9, hy9, hb9⟩ := info_parts Tryd.infoStr
  obtain ⟨i3, hi3, hz3, hy3, hb3⟩ := info_parts Tryd.infoInt
  obtain ⟨a, cap, rfl, hcp, hne⟩ := hsl.form
  obtain ⟨n, hn⟩ : ∃ n, l.length = n := ⟨_, rfl⟩
  rw [hn] at hlen ⊢
  have HS := Lib.hid hs
  have HR := Lib.hid hR
  have HN := Lib.hid hn
  have HNE := Lib.hid hne
  clear hn hne hsl hs hR
  refine callsIn_wide (n := 9) |>.1 ?_
  refine callsIn_of_wp_marks Tryd.func20 rfl trivial ?_ rfl
  refine wpIn_wide.2 ?_
  simp only [Tryd.ntmps20, List.size_toArray, List.length_cons, List.length_nil, Nat.reduceAdd, Nat.reduceSub, Array.replicate_succ, Array.replicate_zero, List.push_toArray, List.append_toArray, List.nil_append, List.cons_append]
  go_wp2
  have A0 : Hid (RootS w (stkB (l.take 0)) (.slice none 0 0) (.slice none 0 0) w) := Lib.hid ⟨World.ownsRow_nil _ _ _ _, World.ownsRow_nil _ _ _ _, Below.refl _ _, (by intro x hx; cases hx), (by intro x hx; cases hx)⟩
  go_loopw [3, 4, 6, 7, 13] (fun v1 v2 _ _ i wr => ∃ k : Nat, k ≤ n ∧ i = .int .i64 k ∧ RootS w (stkB (l.take k)) v1 v2 wr) (fun _ _ _ _ i _ => n - (intOf i).toNat)
  case atStart => exact ⟨0, by omega, rfl, A0.out⟩
  case round =>
    clear A0
    obtain ⟨k, hk, rfl, hA⟩ := hrel
    have HA := Lib.hid hA
    clear hA
    by_cases hlt : k < n
    · have hk' : k < l.length := by rw [HN.out]; exact hlt
      obtain ⟨b, off, rfl, hbl, hcs⟩ := HNE.out (by omega)
      have c0 : wr.cell? ⟨b, off + k, none⟩ = some (.string l[k]) := (HA.out.below.cell (p := ⟨b, off + k, none⟩) hbl).trans (hcs k _ (List.getElem?_eq_getElem hk'))
      have LF := Lib.hid (fun W (h : RoundLaid W) => Leaf_any l[k] (by have := HS.out l[k] (List.getElem_mem hk'); omega) W h)
      have PU : Hid (Dig.Merges nodeB (stkB (l.take k) ++ [(leafB l[k], 1)]) (stkB (l.take (k + 1)))) := Lib.hid (by
        rw [List.take_succ_eq_append_getElem hk']; exact Dig.stk_push leafB nodeB empB _ _ _ rfl)
      have LS : Hid ((stkB (l.take k)).length ≤ 1000000) := Lib.hid (by
        have := Dig.stk_length leafB nodeB empB _ (l.take k) rfl
        have h2 : (l.take k).length ≤ k := by rw [List.length_take]; omega
        unfold stkB; omega)
      have LE : Hid (∀ y ∈ stkB (l.take (k + 1)), y.2 ≤ 1000000) := Lib.hid (fun y hy => by
        have := Dig.stk_sizes leafB nodeB empB _ (l.take (k + 1)) rfl y hy
        have h2 : (l.take (k + 1)).length ≤ k + 1 := by rw [List.length_take]; omega
        omega)
      generalize l[k] = x at *
      clear hcs
      generalize stkB (l.take k) = st at *
      generalize hst' : stkB (l.take (k + 1)) = st' at *
      have HST := Lib.hid hst'
      clear hst'
      go_wp2_with fail
      refine (LF.out _ (HR.out.below HA.out.below)).mono ?_
      rintro e W1 ⟨rfl, hB1⟩
      have R1 := Lib.hid (own_below HA.out.r1 hB1)
      have R2 := Lib.hid (own_below HA.out.r2 hB1)
      have B1 := Lib.hid (HA.out.below.trans (hB1.mono HA.out.below.size))
      clear hB1
      have hbs := B1.out.size
      go_wp2_with (first
        | (at_builtin; refine wpList_append_own _ rfl (.tmp 17) (.tmp 20) 22 rfl w.heap.size 9 i9 _ 1 16 Tryd.underlying22 hi9 hz9 hy9 hb9 rfl (by decide) _ _ _ rfl (R1.out.alloc _) ⟨W1.heap.size, 0, none⟩ 1 1 [.string (leafB x)] rfl rfl (cell_one_new _ _ _) (by simp [Value.oneCell']) (by have := LS.out; simp only [maxLen]; omega) (by have := LS.out; omega) (by simp; omega) ?_
           intro v3 W2 hown hgr _
           have O1 := Lib.hid hown
           have G1 := Lib.hid hgr
           clear hown hgr)
        | (at_builtin; refine wpList_append_own _ rfl (.tmp 22) (.tmp 23) 66 rfl w.heap.size 3 i3 _ 1 8 Tryd.underlying66 hi3 hz3 hy3 hb3 rfl (by decide) _ _ _ rfl (own2 (R1 := R1.out) (R2 := R2.out) G1.out) ⟨W2.heap.size, 0, none⟩ 1 1 [.int .i64 1] rfl rfl (cell_one_new _ _ _) (by simp [Value.oneCell']) (by have := LS.out; simp only [maxLen]; omega) (by have := LS.out; omega) (by have := G1.out.size; simp at this ⊢; omega) ?_
           intro v4 W3 hown hgr _
           obtain ⟨g4, cap4, hv4, _, _, hc4, hm4, _⟩ := own_form hown (by omega)
           rw [hv4] at hown
           subst hv4
           have O2 := Lib.hid hown
           have G2 := Lib.hid hgr
           clear hown hgr))
      have AS : Hid (RootS w (st ++ [(leafB x, 1)]) v3 (.slice (some ⟨g4, 0, none⟩) (st.length + 1) cap4) W3) := Lib.hid (HA.out.pushed R1.out R2.out B1.out O1.out G1.out O2.out G2.out)
      clear HA R1 R2 O1 G1 O2 G2 LF
      go_wp2
      obtain ⟨wo, rfl⟩ : ∃ wo : World, wo = wr := ⟨_, rfl⟩
      go_loopw [3, 4, 7] (fun v1 v2 q wr => ∃ cur : List (ByteArray × Nat), q = .int .i64 cur.length ∧ RootS w cur v1 v2 wr ∧ Dig.Merges nodeB cur st' ∧ cur.length ≤ 1000001) (fun _ _ q _ => (intOf q).toNat)
      case atStart => exact ⟨_, by simp, AS.out, PU.out, by have := LS.out; simp; omega⟩
      case round =>
        clear AS PU
        obtain ⟨cur, rfl, hA, hM, hlc⟩ := hrel
        have HA := Lib.hid hA
        clear hA
        rcases merges_inv hM with ⟨hfin, hstop⟩ | ⟨p, x, y, m, hcur, hnext⟩
        · rcases two_last cur with h1 | ⟨p, x, y, hcur⟩
          · have q0 : ¬ 1 < (cur.length : Int) := by omega
            have q1 : decide (1 < (cur.length : Int)) = false := by simpa using q0
            generalize hq : cur.length = q at *
            have HQ := Lib.hid hq
            clear hq q0
            go_wp2
            go_quiet (fail)
            go_wp2
            go_roundw
            case rel => exact ⟨k + 1, by omega, by go_num, by rw [HST.out, ← hfin]; exact HA.out.drewN _⟩
            case measure => simp [intOf]; omega
          · obtain ⟨m1, hm1⟩ : ∃ m1, x.2 = m1 := ⟨_, rfl⟩
            obtain ⟨m2, hm2⟩ : ∃ m2, y.2 = m2 := ⟨_, rfl⟩
            have hne : ¬ (m1 : Int) = (m2 : Int) := fun e => hstop p x.1 y.1 m1 (by rw [hcur, ← hm1]; congr 3; exact Prod.ext rfl (by show y.2 = x.2; rw [hm2, hm1]; omega))
            have h3 : ((m1 : Int) == (m2 : Int)) = false := by simpa using hne
            obtain ⟨q, hq⟩ : ∃ q, p.length = q := ⟨_, rfl⟩
            have hlq : cur.length = q + 2 := by rw [hcur, ← hq]; simp
            obtain ⟨g2, cap2, hv2, hg2, hgl2, hcp2, hm62, hcells⟩ := own_form HA.out.r2 (by omega)
            have c1 : wr.cell? ⟨g2, q, none⟩ = some (.int .i64 m1) := hcells q _ (by rw [hcur, ← hq, ← hm1]; simp [natV])
            have c2 : wr.cell? ⟨g2, q + 1, none⟩ = some (.int .i64 m2) := hcells (q + 1) _ (by rw [hcur, ← hq, ← hm2]; simp [natV])
            rw [hlq] at hv2
            subst hv2
            rw [hlq]
            rw [show ((q + 2 : Nat) : Int) = (q : Int) + 2 by simp]
            have hqb : q ≤ 1000000 := by omega
            have HFIN := Lib.hid hfin
            have HQ := Lib.hid hq
            have HLQ := Lib.hid hlq
            clear hcells hstop hm1 hm2 hne hfin hcur hq hlq
            have w2 : IntKind.i64.wrap ((q : Int) + 2 - 2) = (q : Int) := by rw [IntWalk.i64_in _ (by omega)]; omega
            have w1 : IntKind.i64.wrap ((q : Int) + 2 - 1) = (q : Int) + 1 := by rw [IntWalk.i64_in _ (by omega)]; omega
            have t1 : ((q : Int) + 1).toNat = q + 1 := by omega
            have b0 : (q : Int) < (q : Int) + 2 := by omega
            have b1 : (q : Int) + 1 < (q : Int) + 2 := by omega
            have b2 : 1 < (q : Int) + 2 := by omega
            have b3 : decide (1 < (q : Int) + 2) = true := by simpa using b2
            go_wp2
            go_quiet (fail)
            clear w1 w2 t1
            go_wp2
            go_roundw
            case rel => exact ⟨k + 1, by omega, by go_num, by rw [HST.out, ← HFIN.out]; exact HA.out.drewN _⟩
            case measure => simp [intOf]; omega
        · obtain ⟨q, hq⟩ : ∃ q, p.length = q := ⟨_, rfl⟩
          have hlq : cur.length = q + 2 := by rw [hcur, ← hq]; simp
          obtain ⟨g2, cap2, hv2, hg2, hgl2, hcp2, hm62, hcells⟩ := own_form HA.out.r2 (by omega)
          have c1 : wr.cell? ⟨g2, q, none⟩ = some (.int .i64 m) := hcells q _ (by rw [hcur, ← hq]; simp [natV])
          have c2 : wr.cell? ⟨g2, q + 1, none⟩ = some (.int .i64 m) := hcells (q + 1) _ (by rw [hcur, ← hq]; simp [natV])
          obtain ⟨g1, cap1, hv1, hg1, hgl1, hcp1, hm61, hcells1⟩ := own_form HA.out.r1 (by omega)
          have d1 : wr.cell? ⟨g1, q, none⟩ = some (.string x) := hcells1 q _ (by rw [hcur, ← hq]; simp [strV])
          have d2 : wr.cell? ⟨g1, q + 1, none⟩ = some (.string y) := hcells1 (q + 1) _ (by rw [hcur, ← hq]; simp [strV])
          rw [hlq] at hv2 hv1
          subst hv2 hv1
          rw [hlq]
          rw [show ((q + 2 : Nat) : Int) = (q : Int) + 2 by simp]
          have hqb : q ≤ 1000000 := by omega
          have b4 : (q : Int) ≤ (cap1 : Int) := by omega
          have b5 : (q : Int) ≤ (cap2 : Int) := by omega
          have hxs : x.size = 32 := HA.out.dig (x, m) (by rw [hcur]; simp)
          have hys : y.size = 32 := HA.out.dig (y, m) (by rw [hcur]; simp)
          have hmb : 2 * m ≤ 1000000 := by
            obtain ⟨z, hz1, hz2⟩ := Dig.Merges.grows nodeB hnext (nodeB x y, 2 * m) (by simp)
            have := LE.out z hz1
            simp at hz2; omega
          have ND := Lib.hid (fun W (h : RoundLaid W) => Node_any x y (by omega) W h)
          have HQ := Lib.hid hq
          have HLQ := Lib.hid hlq
          have HCUR := Lib.hid hcur
          have HNX := Lib.hid hnext
          clear hcells hcells1 hcur hq hlq hM hxs hys hnext
          have h3 : ((m : Int) == (m : Int)) = true := by simp
          have w2 : IntKind.i64.wrap ((q : Int) + 2 - 2) = (q : Int) := by rw [IntWalk.i64_in _ (by omega)]; omega
          have w1 : IntKind.i64.wrap ((q : Int) + 2 - 1) = (q : Int) + 1 := by rw [IntWalk.i64_in _ (by omega)]; omega
          have w3 : IntKind.i64.wrap (q : Int) = (q : Int) := IntWalk.i64_in _ (by omega)
          have w4 : IntKind.i64.wrap ((q : Int) + 1) = (q : Int) + 1 := IntWalk.i64_in _ (by omega)
          have b6 : 0 ≤ (q : Int) + 1 := by omega
          have t1 : ((q : Int) + 1).toNat = q + 1 := by omega
          have b0 : (q : Int) < (q : Int) + 2 := by omega
          have b1 : (q : Int) + 1 < (q : Int) + 2 := by omega
          have b2 : 1 < (q : Int) + 2 := by omega
          have b3 : decide (1 < (q : Int) + 2) = true := by simpa using b2
          go_wp2
          go_quiet (fail)
          have HA2 := Lib.hid (HA.out.drewN nq)
          replace c2 : (wr.drewN nq).cell? ⟨g2, q + 1, none⟩ = some (.int .i64 m) := c2
          replace d1 : (wr.drewN nq).cell? ⟨g1, q, none⟩ = some (.string x) := d1
          replace d2 : (wr.drewN nq).cell? ⟨g1, q + 1, none⟩ = some (.string y) := d2
          replace hgl1 : g1 < (wr.drewN nq).heap.size := hgl1
          replace hgl2 : g2 < (wr.drewN nq).heap.size := hgl2
          clear HA c1
          generalize wr.drewN nq = Wa at *
          have hr1 := own_take (k := q) (by have h := HA2.out.r1; rw [HLQ.out] at h; exact h) (by omega)
          have hr2 := HA2.out.r2
          have e1 : (strV (cur.map (·.1))).take q = strV (p.map (·.1)) := by rw [HCUR.out, ← HQ.out]; simp [strV]
          rw [e1] at hr1
          have RA1 := Lib.hid hr1
          have RA2 := Lib.hid hr2
          clear hr1 hr2 e1
          go_wp2
          refine wp_region_noPanic ?_
          go_region_law (first
            | (refine step_append_lies _ (by rfl) _ _ _ (by rfl) w.heap.size 9 i9 _ 1 16 Tryd.underlying22 hi9 hz9 hy9 hb9 rfl (by omega) (.slice (some ⟨g1, 0, none⟩) q cap1) q _ (by rfl) (by exact (RW1.out.alloc _)) ⟨W5.heap.size, 0, none⟩ 1 1 [.string (nodeB x y)] (by rfl) (by rfl) (World.news_of_block (cs := #[.string (nodeB x y)]) (t := 9) (fr := (0, 0)) (heap_alloc_new _ _)) (by simp [Value.oneCell']) (by omega) (by simp only [maxLen]; omega) (by omega) (by have := BW.out.size; simp; omega) (W5.heap.size + 1) (by simp) ?_
               intro g3 cap3 W6 hown hgr hat hlt6)
            | (go_simp
               go_at_call 31
               refine (ND.out _ (by exact HR.out.below (HA2.out.below.drew))).mono ?_
               rintro e W5 ⟨rfl, hB5⟩
               have RW1 := Lib.hid (own_below RA1.out hB5.of_drew)
               have RW2 := Lib.hid (own_below RA2.out hB5.of_drew)
               have BW := Lib.hid hB5.of_drew
               clear hB5))
          all_goals refine NoPanic.normal ?_
          all_goals
            have Rn1 := Lib.hid hown
            have Rn2 := Lib.hid ((RW2.out.alloc (.cells #[.string (nodeB x y)] 9)).kept hgr (own_ne RW2.out RW1.out (by decide)))
            have Bn : Hid (Below w.heap.size w W6) := Lib.hid (((HA2.out.below.trans (BW.out.mono HA2.out.below.size)).alloc (Nat.le_trans HA2.out.below.size BW.out.size) _).grown hgr (by have := HA2.out.below.size; have := BW.out.size; simp; omega) (fun k e => by have e' : g1 = k := Option.some.inj e; omega))
            clear hown hgr hat RW1 RW2 BW RA1 RA2 d1 d2 c2
            have hr2 := own_take (k := q) (by have h := Rn2.out; rw [HLQ.out] at h; exact h) (by omega)
            have e2 : (natV (cur.map (·.2))).take q = natV (p.map (·.2)) := by rw [HCUR.out, ← HQ.out]; simp [natV]
            rw [e2] at hr2
            have RB2 := Lib.hid hr2
            have c2 : W6.cell? ⟨g2, q + 1, none⟩ = some (.int .i64 m) := by
              obtain ⟨g', cap', e', _, _, _, _, hcc⟩ := own_form Rn2.out (by have := HLQ.out; omega)
              injection e' with e1
              injection e1 with e1
              injection e1 with e1
              subst e1
              exact hcc (q + 1) _ (by rw [HCUR.out, ← HQ.out]; simp [natV])
            have hb6 := Bn.out.size
            clear hr2 e2 Rn2
            have w5 : IntKind.i64.wrap (2 * (m : Int)) = 2 * (m : Int) := IntWalk.i64_in _ (by omega)
            go_wp2
            refine wp_region_noPanic ?_
            go_region_law (refine step_append_lies _ (by rfl) _ _ _ (by rfl) w.heap.size 3 i3 _ 1 8 Tryd.underlying66 hi3 hz3 hy3 hb3 rfl (by omega) (.slice (some ⟨g2, 0, none⟩) q cap2) q _ (by rfl) (by exact ((RB2.out.alloc (.cells #[.int .i64 (2 * (m : Int))] 3)).drew)) ⟨W6.heap.size, 0, none⟩ 1 1 [.int .i64 (2 * (m : Int))] (by rfl) (by rfl) (World.news_of_block (cs := #[.int .i64 (2 * (m : Int))]) (t := 3) (fr := (0, 0)) (heap_alloc_new _ _)) (by simp [Value.oneCell']) (by omega) (by simp only [maxLen]; omega) (by omega) (by simp; omega) (W6.heap.size + 1) (by simp) ?_; intro g5 cap5 W7 hown hgr hat hlt7)
            all_goals refine NoPanic.normal ?_
            all_goals
              have AN : Hid (RootS w (p ++ [(nodeB x y, 2 * m)]) (.slice (some ⟨g3, 0, none⟩) (q + 1) cap3) (.slice (some ⟨g5, 0, none⟩) (q + 1) cap5) W7) := Lib.hid (HA2.out.merged HCUR.out HQ.out Rn1.out Bn.out hown RB2.out hgr (by omega))
              clear hown hgr hat Rn1 Bn RB2 c2 w1 w2 w3 w4 w5 t1
              go_wp2
              go_roundw
              case rel => exact ⟨_, by rw [List.length_append, HQ.out]; simp; omega, AN.out, HNX.out, by rw [List.length_append, HQ.out]; simp; omega⟩
              case measure => simp [intOf]; omega
    · obtain rfl : k = n := by omega
      have htk : l.take k = l := List.take_of_length_le (by rw [HN.out]; omega)
      rw [htk] at HA
      clear htk
      have FR : Hid (Dig.foldR nodeB empB (stkB l) = rootB l) := Lib.hid (Dig.foldR_stk leafB nodeB empB _ l rfl)
      have SB : Hid ((stkB l).length ≤ 1000000) := Lib.hid (by
        have := Dig.stk_length leafB nodeB empB _ l rfl
        have := HN.out
        unfold stkB; omega)
      generalize stkB l = st at *
      rcases snoc_cases st with hst | ⟨sL, r, hst⟩
      · subst hst
        obtain ⟨a0, c0, hv⟩ : ∃ a0 c0, u3 = .slice a0 0 c0 := by
          rcases HA.out.r1.2 with ⟨e, _⟩ | ⟨g, c, cur, e, _⟩
          · exact ⟨_, _, e⟩
          · exact ⟨_, _, e⟩
        subst hv
        have SU := Lib.hid (Sum_any ⟨#[]⟩ (by decide) wr (HR.out.below HA.out.below))
        have HB := Lib.hid HA.out.below
        clear HA
        go_wp2_with fail
        refine SU.out.mono ?_
        rintro e W1 ⟨rfl, hB1⟩
        have HB1 := Lib.hid (HB.out.trans (hB1.mono HB.out.size))
        clear hB1
        go_wp2
        exact ⟨_, results_tmp rfl _ _ _, by rw [← FR.out]; rfl, HB1.out⟩
      · have hls : st.length = sL.length + 1 := by rw [hst]; simp
        obtain ⟨L, hL⟩ : ∃ L, L = sL.map Prod.fst := ⟨_, rfl⟩
        have hs32 : ∀ x : Fin L.length, (L[x]).size = 32 := fun x => by
          subst hL
          have hx := x.2
          simp only [List.length_map] at hx
          show (((sL.map Prod.fst)[x.1]'x.2)).size = 32
          rw [List.getElem_map]
          exact HA.out.dig _ (by rw [hst]; simp)
        obtain ⟨q, hq⟩ : ∃ q, L.length = q := ⟨_, rfl⟩
        have hql : sL.length = q := by rw [← hq, hL]; simp
        obtain ⟨g1, cap1, hv1, hg1, hgl1, hcp1, hm61, hcells1⟩ := own_form HA.out.r1 (by omega)
        rw [hls, hql] at hv1
        subst hv1
        have hr32 : r.1.size = 32 := HA.out.dig r (by rw [hst]; simp)
        have c1 : wr.cell? ⟨g1, q, none⟩ = some (.string r.1) := hcells1 q _ (by rw [hst, ← hql]; simp [strV])
        have hcs : ∀ j x, L[j]? = some x → wr.cell? ⟨g1, 0 + j, none⟩ = some (.string x) := fun j x hj => by
          subst hL
          rw [Nat.zero_add]
          refine hcells1 j _ ?_
          have hj' : j < sL.length := by have := (List.getElem?_eq_some_iff.1 hj).1; simpa using this
          rw [hst]
          simp only [strV, List.map_append, List.getElem?_map] at hj ⊢
          rw [List.getElem?_append_left (by simpa using hj'), List.getElem?_map, List.getElem?_map]
          obtain ⟨z, hz, rfl⟩ := Option.map_eq_some_iff.1 hj
          rw [hz]; rfl
        have FR2 : Hid (L.foldr nodeB r.1 = rootB l) := Lib.hid (by rw [hL, ← FR.out, hst, foldR_snoc])
        have hqb : q ≤ 1000000 := by have := SB.out; omega
        have HB := Lib.hid HA.out.below
        have hcq : q + 1 ≤ cap1 := by omega
        clear HA FR SB hcells1 hls hst hql hL
        generalize r.1 = r0 at *
        have HCS := Lib.hid hcs
        have HS32 := Lib.hid hs32
        have HQ := Lib.hid hq
        clear hcs hs32 hq
        have z0 : ((q : Int) + 1 == 0) = false := beq_false_of_ne (by omega)
        have b0 : (q : Int) < (q : Int) + 1 := by omega
        have b1 : (q : Int) ≤ (cap1 : Int) := by omega
        go_wp2_with fail
        refine (Back_any _ rfl _).mono ?_
        rintro e W4 ⟨rfl, hW4⟩
        have HW4 := Lib.hid hW4
        clear hW4
        go_wp2
        have w4 := HW4.out
        have hBo : W4.heap[wr.heap.size]? = some (.cells #[.string r0] 9 (0, 0)) := by rw [← w4, allocOld (by simp)]; exact allocAt _ rfl
        have hBs : W4.heap[wr.heap.size + 1]? = some (.cells #[.slice (some ⟨g1, 0, none⟩) L.length cap1] 22 (0, 0)) := by rw [← w4, HQ.out]; exact allocAt _ (by simp)
        have hB4 : Below w.heap.size w W4 := by rw [← w4]; exact (HB.out.alloc HB.out.size _).alloc (by have := HB.out.size; simp; omega) _
        have hsz : W4.heap.size = wr.heap.size + 2 := by rw [← w4]; simp
        have hcs4 : ∀ j x, L[j]? = some x → W4.cell? ⟨g1, 0 + j, none⟩ = some (.string x) := fun j x hj => by
          rw [← w4, World.cell?_alloc_past _ _ _ (by simp; omega), World.cell?_alloc_past _ _ _ hgl1]; exact HCS.out j x hj
        have hR4 : RoundLaid W4 := HR.out.below hB4
        have hw0 : 0 < w.heap.size := ltOf HR.out.choose_spec
        have hw1 : w.heap.size ≤ wr.heap.size := HB.out.size
        have HBo := Lib.hid hBo
        have HBs := Lib.hid hBs
        have HB4 := Lib.hid hB4
        have HSZ := Lib.hid hsz
        have HCS4 := Lib.hid hcs4
        have HR4 := Lib.hid hR4
        clear w4 hBo hBs hB4 hsz hcs4 hR4 HW4 HCS
        have hno : ∀ r : ByteArray, r.size = 32 → ∀ x : Fin L.length, (nodeB L[x] r).size = 32 := fun r _ x => sumB_size _
        refine (wpIn_wide (n := 9)).1 ?_
        refine rangeG rfl (by omega) (gf := 86) (lb := #[.pointer (some ⟨wr.heap.size + 1, 0, none⟩)]) rfl trivial (enters_of Tryd.func86 (by kernel_rfl) rfl)
          (back_stops 8 (by omega) (wr.heap.size + 1) g1 0 cap1 L (by have := HQ.out; omega) W4 _ _ _ (fun _ => rfl) HBs.out (fun _ => by have := HSZ.out; omega) HCS4.out) KeepT.trans (KeepT.putObj (by have := HSZ.out; intro k hk; omega)) (Below.refl _ _) (fun _ => rfl)
          (fun (pre : List (Fin L.length)) W => W.heap[wr.heap.size]? = some (.cells #[.string (backF L pre r0)] 9 (0, 0)) ∧ Upd (· = wr.heap.size) W4 W)
          (fun _ _ _ => False)
          (OwnFrom.and (ownFrom_at wr.heap.size (fun pre => .cells #[.string (backF L pre r0)] 9 (0, 0)) (by have := HSZ.out; omega)) (ownFrom_upd (Nat.le_refl _)))
          (fun _ _ _ _ _ hs _ _ => hs)
          ⟨HBo.out, Upd.refl _ _⟩
          (fun x T => ((T.setIfInBounds 90 (.int .i64 (x.1 : Int))).setIfInBounds 91 (.string L[x])).setIfInBounds 10 (.string L[x])) ?assign ?body ?done ?stop
        case assign =>
          intro l x W K hK
          simp only [List.setIfInBounds_toArray, List.set_cons_zero, List.set_cons_succ] at hK
          gi_wp2
          exact hK
        case body =>
          rintro l pre x W ⟨hh, hU⟩ hlt
          have HH := Lib.hid hh
          have HU := Lib.hid hU
          have hcc : W.cell? ⟨wr.heap.size, 0, none⟩ = some (.string (backF L pre r0)) := by rw [cellOf hh]; rfl
          clear hh hU
          have hbs := backF_size L HS32.out pre r0 hr32
          have ND := Lib.hid (fun W (h : RoundLaid W) => Node_any L[x] (backF L pre r0) (by have := HS32.out x; omega) W h)
          have HSN := Lib.hid (backF_snoc L pre x r0)
          simp only [List.setIfInBounds_toArray, List.set_cons_zero, List.set_cons_succ]
          generalize backF L pre r0 = o1 at *
          generalize L[x] = sx at *
          gi_wp2
          refine ⟨trivial, ?_⟩
          refine (CallsIn.inRound l (callsIn_wide.2 (ND.out W (HR4.out.upd HU.out (by omega))))).mono ?_
          rintro e W' ⟨rfl, h2⟩
          have hh2 : W'.heap[wr.heap.size]? = some (.cells #[.string o1] 9 (0, 0)) := by rw [h2.block _ (ltOf HH.out)]; exact HH.out
          have cc2 : W'.cell? ⟨wr.heap.size, 0, none⟩ = some (.string o1) := by rw [cellOf hh2]; rfl
          have ff2 : W'.frozen? ⟨wr.heap.size, 0, none⟩ = false := frozenOf hh2 0
          have H2 := Lib.hid h2
          have HH2 := Lib.hid hh2
          clear h2 hh2
          gi_wp2
          have hU3 : Upd (· = wr.heap.size) W (W'.setCell ⟨wr.heap.size, 0, none⟩ (.string (nodeB sx o1))) := (Upd.of_below H2.out).setCell _ _ (.inl rfl)
          exact ⟨keepsFrom_of_upd hU3 (fun k hk => by have hk' : k = wr.heap.size := hk; have := HSZ.out; omega), KeepT.of_upd hU3 (fun k hk => ⟨by have := HU.out.size; have := HSZ.out; omega, fun e => by have hk' : k = wr.heap.size := e; omega⟩), by rw [setOf_ HH2.out 0 _, HSN.out]; rfl, HU.out.trans hU3 (fun _ _ h => h)⟩
        case done =>
          rintro D ys W hD rfl ⟨hh, hU⟩ hK
          have hcc : W.cell? ⟨wr.heap.size, 0, none⟩ = some (.string (rootB l)) := by rw [cellOf hh, backF_all, FR2.out]; rfl
          have HU := Lib.hid hU
          have HK := Lib.hid hK
          clear hh hU hK
          go_wp2
          refine ⟨by simp, .inl ⟨_, _, rfl, run_takeDeferred HK.out, ?_⟩⟩
          have hW : Below w.heap.size w W := HB4.out.trans (HU.out.below' (by have := HSZ.out; omega) (by intro i hi h; have h' : i = wr.heap.size := h; omega))
          exact ⟨_, results_tmp rfl _ _ _, rfl, hW.trans (belowK_b (w := w) (Nat.le_refl _) W D _ _ (by have := HSZ.out; omega) HK.out rfl rfl)⟩
        case stop =>
          rintro D c pre W _ _ h _
          exact h.elim
end Go.Proofs.YtljgphmdiflphaaDoor
