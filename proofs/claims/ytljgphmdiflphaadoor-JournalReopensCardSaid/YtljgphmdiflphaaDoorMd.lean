/- Root: the stack of complete parts.
  YtljgphmdiflphaaDoorDigB
  Proof.
  Extension.
-/
import Derived.Test.YtljgphmdiflphaaDoorMc
import Derived.RangeFuncCalls
import Derived.Deep.RegionLaw
import Derived.Deep.RegionHeld3
import Derived.Deep.AppendLies
import Derived.Lib.RowBridge
namespace Go.Proofs.YtljgphmdiflphaaDoor
open Go.RowKit Go.Shelf
set_option linter.unusedVariables false
attribute [local go_sem] Oper.semAt_some

def empB : ByteArray := sumB ⟨#[]⟩
def rootB (l : List ByteArray) : ByteArray := Dig.root leafB nodeB empB l
def stkB (l : List ByteArray) : List (ByteArray × Nat) := Dig.stk leafB nodeB empB l

theorem Tryd.infoStr : (Tryd.prog.info? 9).map (fun i => (i.zero, i.size, i.bytes)) = some (some (.string ByteArray.empty), 1, 16) := by kernel_rfl
theorem Tryd.infoInt : (Tryd.prog.info? 3).map (fun i => (i.zero, i.size, i.bytes)) = some (some (.int .i64 0), 1, 8) := by kernel_rfl

def strV (l : List ByteArray) : List Value := l.map Value.string
def natV (l : List Nat) : List Value := l.map fun (n : Nat) => Value.int .i64 (n : Int)

/-- The stack as two rows of the call's own. -/
structure RootS (w : World) (st : List (ByteArray × Nat)) (v1 v2 : Value) (wr : World) : Prop where
  r1 : wr.ownsRow w.heap.size 9 1 v1 st.length (strV (st.map (·.1)))
  r2 : wr.ownsRow w.heap.size 3 1 v2 st.length (natV (st.map (·.2)))
  below : Below w.heap.size w wr
  dig : ∀ x ∈ st, x.1.size = 32
  le : ∀ x ∈ st, x.2 ≤ 1000000
theorem own_ne {w : World} {b1 b2 s1 s2 n1 n2 : Nat} {e1 e2 : TypeId} {v1 v2 : Value} {x1 x2 : List Value} (h1 : w.ownsRow b1 e1 s1 v1 n1 x1) (h2 : w.ownsRow b2 e2 s2 v2 n2 x2) (he : e1 ≠ e2) : v1.ownBlock = none ∨ v1.ownBlock ≠ v2.ownBlock := by
  rcases h1.2 with ⟨rfl, _⟩ | ⟨g1, c1, cur1, rfl, _, hg1, _⟩
  · exact .inl rfl
  · rcases h2.2 with ⟨rfl, _⟩ | ⟨g2, c2, cur2, rfl, _, hg2, _⟩
    · exact .inr (by simp [Value.ownBlock])
    · refine .inr fun e => ?_
      have e' : g1 = g2 := by simpa [Value.ownBlock] using e
      subst e'
      exact ty_ne hg1 hg2 he rfl
theorem own_take {w : World} {base n k : Nat} {e : TypeId} {g cap : Nat} {xs : List Value} (h : w.ownsRow base e 1 (.slice (some ⟨g, 0, none⟩) n cap) n xs) (hk : k ≤ n) : w.ownsRow base e 1 (.slice (some ⟨g, 0, none⟩) k cap) k (xs.take k) := by
  have hl := h.1
  rw [Nat.mul_one] at hl
  refine ⟨by rw [List.length_take]; omega, .inr ?_⟩
  rcases h.2 with ⟨e0, _⟩ | ⟨g', c', cur, e1, hb, hg, hn, hc, hs, ht⟩
  · cases e0
  · injection e1 with e1 e2 e3
    injection e1 with e1
    injection e1 with e1
    subst e1 e3
    rw [Nat.mul_one] at ht
    exact ⟨g, cap, cur, rfl, hb, hg, by omega, hc, hs, by rw [← ht, List.take_take, Nat.mul_one, Nat.min_eq_left hk]⟩
theorem own_upd {S : Nat → Prop} {w w' : World} {base n s : Nat} {e : TypeId} {v : Value} {xs : List Value} (h : w.ownsRow base e s v n xs) (hu : Upd S w w') (hS : ∀ g, v.ownBlock = some g → ¬ S g) : w'.ownsRow base e s v n xs := by
  refine ⟨h.1, h.2.imp id ?_⟩
  rintro ⟨g, c, cur, rfl, hb, hg, r⟩
  exact ⟨g, c, cur, rfl, hb, hu.at hg (hS g rfl), r⟩
theorem own_below {w w' : World} {base n s : Nat} {e : TypeId} {v : Value} {xs : List Value} (h : w.ownsRow base e s v n xs) (hu : Below w.heap.size w w') : w'.ownsRow base e s v n xs :=
  own_upd (S := fun _ => False) h (Upd.of_below hu) (fun _ _ h => h)
theorem own_form {w : World} {base n s : Nat} {e : TypeId} {v : Value} {xs : List Value} (h : w.ownsRow base e s v n xs) (hn : 0 < n) : ∃ g cap, v = .slice (some ⟨g, 0, none⟩) n cap ∧ base ≤ g ∧ g < w.heap.size ∧ n ≤ cap ∧ cap ≤ maxLen ∧ ∀ j u, xs[j]? = some u → w.cell? ⟨g, j, none⟩ = some u := by
  rcases h.2 with ⟨rfl, _⟩ | ⟨g, c, cur, rfl, hb, hg, h1, h2, _⟩
  · omega
  · refine ⟨g, c, rfl, hb, ltOf hg, h1, h2, fun j u hj => ?_⟩
    have := h.cells (g := g) rfl j u hj
    have ha : (⟨g, 0, none⟩ : Addr).add j = ⟨g, j, none⟩ := by unfold Addr.add; split <;> simp_all
    rwa [ha] at this

theorem own2 {w W1 W2 : World} {o o' : Obj} {n : Nat} {v1 v2 : Value} {x1 x2 : List Value} (R1 : W1.ownsRow w.heap.size 9 1 v1 n x1) (R2 : W1.ownsRow w.heap.size 3 1 v2 n x2) (hg : (W1.alloc o).grownBy W2 v1.ownBlock) :
    (W2.alloc o').ownsRow w.heap.size 3 1 v2 n x2 :=
  (((R2.alloc o).kept hg (own_ne R2 R1 (by decide)))).alloc o'

theorem RootS.drewN {w wr : World} {st : List (ByteArray × Nat)} {v1 v2 : Value} (h : RootS w st v1 v2 wr) (n : Nat) : RootS w st v1 v2 (wr.drewN n) :=
  ⟨h.r1, h.r2, ⟨h.below.os, h.below.tape, h.below.output, h.below.size, h.below.block⟩, h.dig, h.le⟩
theorem RootS.merged {w Wa W6 W7 : World} {cur p : List (ByteArray × Nat)} {u1 u2 : Value} {x y : ByteArray} {m q g3 cap3 g2 cap2 g5 cap5 : Nat} {o : Obj} (h : RootS w cur u1 u2 Wa) (hc : cur = p ++ [(x, m), (y, m)]) (hq : p.length = q)
    (R1 : W6.ownsRow w.heap.size 9 1 (.slice (some ⟨g3, 0, none⟩) (q + 1) cap3) (q + 1) (strV (p.map (·.1)) ++ [.string (nodeB x y)])) (B : Below w.heap.size w W6)
    (R2 : W7.ownsRow w.heap.size 3 1 (.slice (some ⟨g5, 0, none⟩) (q + 1) cap5) (q + 1) (natV (p.map (·.2)) ++ [.int .i64 (2 * (m : Int))]))
    (R3 : W6.ownsRow w.heap.size 3 1 (.slice (some ⟨g2, 0, none⟩) q cap2) q (natV (p.map (·.2)))) (hg : (W6.alloc o).drew.grownBy W7 (Value.slice (some ⟨g2, 0, none⟩) q cap2).ownBlock) (hm : 2 * m ≤ 1000000) :
    RootS w (p ++ [(nodeB x y, 2 * m)]) (.slice (some ⟨g3, 0, none⟩) (q + 1) cap3) (.slice (some ⟨g5, 0, none⟩) (q + 1) cap5) W7 := by
  subst hc hq
  have R1' := ((R1.alloc o).drew).kept hg (own_ne R1 R3 (by decide))
  refine ⟨by simpa [strV] using R1', by simpa [natV] using R2, ?_, ?_, ?_⟩
  · exact ((B.alloc B.size o).drew).grown hg (by have := B.size; simp; omega) (fun k e => (R3.lt k e).1)
  · intro z hz
    rcases List.mem_append.1 hz with hz | hz
    · exact h.dig z (by simp [hz])
    · obtain rfl := List.mem_singleton.1 hz; exact sumB_size _
  · intro z hz
    rcases List.mem_append.1 hz with hz | hz
    · exact h.le z (by simp [hz])
    · obtain rfl := List.mem_singleton.1 hz; exact hm
theorem RootS.pushed {w wr W1 W2 W3 : World} {st : List (ByteArray × Nat)} {u3 u4 v3 v4 : Value} {x : ByteArray} {o o' : Obj} (h : RootS w st u3 u4 wr) (R1 : W1.ownsRow w.heap.size 9 1 u3 st.length (strV (st.map (·.1)))) (R2 : W1.ownsRow w.heap.size 3 1 u4 st.length (natV (st.map (·.2))))
    (B1 : Below w.heap.size w W1) (O1 : W2.ownsRow w.heap.size 9 1 v3 (st.length + 1) (strV (st.map (·.1)) ++ [.string (leafB x)])) (G1 : (W1.alloc o).grownBy W2 u3.ownBlock)
    (O2 : W3.ownsRow w.heap.size 3 1 v4 (st.length + 1) (natV (st.map (·.2)) ++ [.int .i64 1])) (G2 : (W2.alloc o').grownBy W3 u4.ownBlock) : RootS w (st ++ [(leafB x, 1)]) v3 v4 W3 := by
  have O1' := (O1.alloc o').kept G2 (own_ne (O1.alloc o') (own2 R1 R2 G1) (by decide))
  have hb2 : Below w.heap.size w W2 := (B1.alloc B1.size o).grown G1 (by have := B1.size; simp; omega) (fun k e => (R1.lt k e).1)
  refine ⟨by simpa [strV] using O1', by simpa [natV] using O2, (hb2.alloc hb2.size o').grown G2 (by have := hb2.size; simp; omega) (fun k e => (R2.lt k e).1), ?_, ?_⟩
  · intro y hy
    rcases List.mem_append.1 hy with hy | hy
    · exact h.dig y hy
    · obtain rfl := List.mem_singleton.1 hy; exact sumB_size _
  · intro y hy
    rcases List.mem_append.1 hy with hy | hy
    · exact h.le y hy
    · obtain rfl := List.mem_singleton.1 hy; simp

theorem merges_inv {s s' : List (ByteArray × Nat)} (h : Dig.Merges nodeB s s') : (s = s' ∧ ∀ p a b m, s ≠ p ++ [(a, m), (b, m)]) ∨ ∃ p a b m, s = p ++ [(a, m), (b, m)] ∧ Dig.Merges nodeB (p ++ [(nodeB a b, 2 * m)]) s' := by
  cases h with
  | stop h => exact .inl ⟨rfl, h⟩
  | @step p a b m _ h => exact .inr ⟨p, a, b, m, rfl, h⟩
theorem snoc_cases {α : Type} (l : List α) : l = [] ∨ ∃ p x, l = p ++ [x] := by
  rcases List.eq_nil_or_concat l with h | ⟨p, x, h⟩
  · exact .inl h
  · exact .inr ⟨p, x, by rw [h]; simp⟩
theorem foldR_snoc (sL : List (ByteArray × Nat)) (r : ByteArray × Nat) : Dig.foldR nodeB empB (sL ++ [r]) = (sL.map (·.1)).foldr nodeB r.1 := by
  induction sL with
  | nil => rfl
  | cons x sL ih =>
    cases sL with
    | nil => rfl
    | cons y sL => rw [List.cons_append, List.cons_append, Dig.foldR, ← List.cons_append, ih]; rfl
/-- the nodes from the end of a list on -/
def backF (L : List ByteArray) (pre : List (Fin L.length)) (r : ByteArray) : ByteArray := pre.foldl (fun o x => nodeB L[x] o) r
theorem backF_snoc (L : List ByteArray) (pre : List (Fin L.length)) (x : Fin L.length) (r : ByteArray) : backF L (pre ++ [x]) r = nodeB L[x] (backF L pre r) := by simp [backF]
theorem backF_size (L : List ByteArray) (_ : ∀ x : Fin L.length, L[x].size = 32) (pre : List (Fin L.length)) (r : ByteArray) (hr : r.size = 32) : (backF L pre r).size = 32 := by
  rcases snoc_cases pre with rfl | ⟨p, x, rfl⟩
  · exact hr
  · rw [backF_snoc]; exact sumB_size _
theorem map_finRange (L : List ByteArray) : (List.finRange L.length).map (fun x => L[x]) = L := by
  apply List.ext_getElem
  · simp
  · intro i h1 h2; simp
theorem backF_all (L : List ByteArray) (r : ByteArray) : backF L (List.finRange L.length).reverse r = L.foldr nodeB r := by
  unfold backF
  rw [List.foldl_reverse]
  have := List.foldr_map (f := fun x : Fin L.length => L[x]) (g := nodeB) (l := List.finRange L.length) (init := r)
  rw [map_finRange] at this
  exact this.symm
theorem two_last {α : Type} (l : List α) : l.length ≤ 1 ∨ ∃ p x y, l = p ++ [x, y] := by
  by_cases h : l.length ≤ 1
  · exact .inl h
  · refine .inr ⟨l.take (l.length - 2), l[l.length - 2]'(by omega), l[l.length - 1]'(by omega), ?_⟩
    apply List.ext_getElem
    · simp; omega
    · intro i h1 h2
      rw [List.getElem_append]
      simp only [List.length_take, List.getElem_take]
      split
      · rfl
      · have : i = l.length - 2 ∨ i = l.length - 1 := by omega
        rcases this with rfl | rfl
        · simp [show min (l.length - 2) l.length = l.length - 2 by omega]
        · simp [show min (l.length - 2) l.length = l.length - 2 by omega, show l.length - 1 - (l.length - 2) = 1 by omega]

set_option maxRecDepth 100000 in
set_option maxHeartbeats 4000000 in
theorem Root_any (w : World) (sv : Value) (l : List ByteArray) (hsl : SL w sv l) (hlen : l.length ≤ 1000000) (hs : ∀ s ∈ l, s.size ≤ 800000) (hR : RoundLaid w) :
    Calls Tryd.prog 20 #[sv] w fun e w' => e = .returned (.string (rootB l)) ∧ Below w.heap.size w w' := by
  obtain ⟨i9, hi9, hz9, hy9, hb9⟩ := info_parts Tryd.infoStr
  obtain ⟨i3, hi3, hz3, hy3, hb3⟩ := info_parts Tryd.infoInt
  obtain ⟨a, cap, rfl, hcp, hne⟩ := hsl.form
  obtain ⟨n, hn⟩ : ∃ n, l.length = n := ⟨_, rfl⟩
  rw [hn] at hlen ⊢
  have HS := Lib.hid hs
  have HR := Lib.hid hR
  have HN := Lib.hid hn
  have HNE := Lib.hid hne
  clear hn hne hsl hs hR
  refine callsIn_wide (n := 9) |>.1 ?_
  refine callsIn_of_wp_marks Tryd.func20 rfl trivial ?_ rfl
  refine wpIn_wide.2 ?_
  simp only [Tryd.ntmps20, List.size_toArray, List.length_cons, List.length_nil, Nat.reduceAdd, Nat.reduceSub, Array.replicate_succ, Array.replicate_zero, List.push_toArray, List.append_toArray, List.nil_append, List.cons_append]
  go_wp2
  have A0 : Hid (RootS w (stkB (l.take 0)) (.slice none 0 0) (.slice none 0 0) w) := Lib.hid ⟨World.ownsRow_nil _ _ _ _, World.ownsRow_nil _ _ _ _, Below.refl _ _, (by intro x hx; cases hx), (by intro x hx; cases hx)⟩
  go_loopw [3, 4, 6, 7, 13] (fun v1 v2 _ _ i wr => ∃ k : Nat, k ≤ n ∧ i = .int .i64 k ∧ RootS w (stkB (l.take k)) v1 v2 wr) (fun _ _ _ _ i _ => n - (intOf i).toNat)
  case atStart => exact ⟨0, by omega, rfl, A0.out⟩
  case round =>
    clear A0
    obtain ⟨k, hk, rfl, hA⟩ := hrel
    have HA := Lib.hid hA
    clear hA
    by_cases hlt : k < n
    · have hk' : k < l.length := by rw [HN.out]; exact hlt
      obtain ⟨b, off, rfl, hbl, hcs⟩ := HNE.out (by omega)
      have c0 : wr.cell? ⟨b, off + k, none⟩ = some (.string l[k]) := (HA.out.below.cell (p := ⟨b, off + k, none⟩) hbl).trans (hcs k _ (List.getElem?_eq_getElem hk'))
      have LF := Lib.hid (fun W (h : RoundLaid W) => Leaf_any l[k] (by have := HS.out l[k] (List.getElem_mem hk'); omega) W h)
      have PU : Hid (Dig.Merges nodeB (stkB (l.take k) ++ [(leafB l[k], 1)]) (stkB (l.take (k + 1)))) := Lib.hid (by
        rw [List.take_succ_eq_append_getElem hk']; exact Dig.stk_push leafB nodeB empB _ _ _ rfl)
      have LS : Hid ((stkB (l.take k)).length ≤ 1000000) := Lib.hid (by
        have := Dig.stk_length leafB nodeB empB _ (l.take k) rfl
        have h2 : (l.take k).length ≤ k := by rw [List.length_take]; omega
        unfold stkB; omega)
      have LE : Hid (∀ y ∈ stkB (l.take (k + 1)), y.2 ≤ 1000000) := Lib.hid (fun y hy => by
        have := Dig.stk_sizes leafB nodeB empB _ (l.take (k + 1)) rfl y hy
        have h2 : (l.take (k + 1)).length ≤ k + 1 := by rw [List.length_take]; omega
        omega)
      generalize l[k] = x at *
      clear hcs
      generalize stkB (l.take k) = st at *
      generalize hst' : stkB (l.take (k + 1)) = st' at *
      have HST := Lib.hid hst'
      clear hst'
      go_wp2_with fail
      refine (LF.out _ (HR.out.below HA.out.below)).mono ?_
      rintro e W1 ⟨rfl, hB1⟩
      have R1 := Lib.hid (own_below HA.out.r1 hB1)
      have R2 := Lib.hid (own_below HA.out.r2 hB1)
      have B1 := Lib.hid (HA.out.below.trans (hB1.mono HA.out.below.size))
      clear hB1
      have hbs := B1.out.size
      go_wp2_with (first
        | (at_builtin; refine wpList_append_own _ rfl (.tmp 17) (.tmp 20) 22 rfl w.heap.size 9 i9 _ 1 16 Tryd.underlying22 hi9 hz9 hy9 hb9 rfl (by decide) _ _ _ rfl (R1.out.alloc _) ⟨W1.heap.size, 0, none⟩ 1 1 [.string (leafB x)] rfl rfl (cell_one_new _ _ _) (by simp [Value.oneCell']) (by have := LS.out; simp only [maxLen]; omega) (by have := LS.out; omega) (by simp; omega) ?_
           intro v3 W2 hown hgr _
           have O1 := Lib.hid hown
           have G1 := Lib.hid hgr
           clear hown hgr)
        | (at_builtin; refine wpList_append_own _ rfl (.tmp 22) (.tmp 23) 66 rfl w.heap.size 3 i3 _ 1 8 Tryd.underlying66 hi3 hz3 hy3 hb3 rfl (by decide) _ _ _ rfl (own2 (R1 := R1.out) (R2 := R2.out) G1.out) ⟨W2.heap.size, 0, none⟩ 1 1 [.int .i64 1] rfl rfl (cell_one_new _ _ _) (by simp [Value.oneCell']) (by have := LS.out; simp only [maxLen]; omega) (by have := LS.out; omega) (by have := G1.out.size; simp at this ⊢; omega) ?_
           intro v4 W3 hown hgr _
           obtain ⟨g4, cap4, hv4, _, _, hc4, hm4, _⟩ := own_form hown (by omega)
           rw [hv4] at hown
           subst hv4
           have O2 := Lib.hid hown
           have G2 := Lib.hid hgr
           clear hown hgr))
      have AS : Hid (RootS w (st ++ [(leafB x, 1)]) v3 (.slice (some ⟨g4, 0, none⟩) (st.length + 1) cap4) W3) := Lib.hid (HA.out.pushed R1.out R2.out B1.out O1.out G1.out O2.out G2.out)
      clear HA R1 R2 O1 G1 O2 G2 LF
      go_wp2
      obtain ⟨wo, rfl⟩ : ∃ wo : World, wo = wr := ⟨_, rfl⟩
      go_loopw [3, 4, 7] (fun v1 v2 q wr => ∃ cur : List (ByteArray × Nat), q = .int .i64 cur.length ∧ RootS w cur v1 v2 wr ∧ Dig.Merges nodeB cur st' ∧ cur.length ≤ 1000001) (fun _ _ q _ => (intOf q).toNat)
      case atStart => exact ⟨_, by simp, AS.out, PU.out, by have := LS.out; simp; omega⟩
      case round =>
        clear AS PU
        obtain ⟨cur, rfl, hA, hM, hlc⟩ := hrel
        have HA := Lib.hid hA
        clear hA
        rcases merges_inv hM with ⟨hfin, hstop⟩ | ⟨p, x, y, m, hcur, hnext⟩
        · rcases two_last cur with h1 | ⟨p, x, y, hcur⟩
          · have q0 : ¬ 1 < (cur.length : Int) := by omega
            have q1 : decide (1 < (cur.length : Int)) = false := by simpa using q0
            generalize hq : cur.length = q at *
            have HQ := Lib.hid hq
            clear hq q0
            go_wp2
            go_quiet (fail)
            go_wp2
            go_roundw
            case rel => exact ⟨k + 1, by omega, by go_num, by rw [HST.out, ← hfin]; exact HA.out.drewN _⟩
            case measure => simp [intOf]; omega
          · obtain ⟨m1, hm1⟩ : ∃ m1, x.2 = m1 := ⟨_, rfl⟩
            obtain ⟨m2, hm2⟩ : ∃ m2, y.2 = m2 := ⟨_, rfl⟩
            have hne : ¬ (m1 : Int) = (m2 : Int) := fun e => hstop p x.1 y.1 m1 (by rw [hcur, ← hm1]; congr 3; exact Prod.ext rfl (by show y.2 = x.2; rw [hm2, hm1]; omega))
            have h3 : ((m1 : Int) == (m2 : Int)) = false := by simpa using hne
            obtain ⟨q, hq⟩ : ∃ q, p.length = q := ⟨_, rfl⟩
            have hlq : cur.length = q + 2 := by rw [hcur, ← hq]; simp
            obtain ⟨g2, cap2, hv2, hg2, hgl2, hcp2, hm62, hcells⟩ := own_form HA.out.r2 (by omega)
            have c1 : wr.cell? ⟨g2, q, none⟩ = some (.int .i64 m1) := hcells q _ (by rw [hcur, ← hq, ← hm1]; simp [natV])
            have c2 : wr.cell? ⟨g2, q + 1, none⟩ = some (.int .i64 m2) := hcells (q + 1) _ (by rw [hcur, ← hq, ← hm2]; simp [natV])
            rw [hlq] at hv2
            subst hv2
            rw [hlq]
            rw [show ((q + 2 : Nat) : Int) = (q : Int) + 2 by simp]
            have hqb : q ≤ 1000000 := by omega
            have HFIN := Lib.hid hfin
            have HQ := Lib.hid hq
            have HLQ := Lib.hid hlq
            clear hcells hstop hm1 hm2 hne hfin hcur hq hlq
            have w2 : IntKind.i64.wrap ((q : Int) + 2 - 2) = (q : Int) := by rw [IntWalk.i64_in _ (by omega)]; omega
            have w1 : IntKind.i64.wrap ((q : Int) + 2 - 1) = (q : Int) + 1 := by rw [IntWalk.i64_in _ (by omega)]; omega
            have t1 : ((q : Int) + 1).toNat = q + 1 := by omega
            have b0 : (q : Int) < (q : Int) + 2 := by omega
            have b1 : (q : Int) + 1 < (q : Int) + 2 := by omega
            have b2 : 1 < (q : Int) + 2 := by omega
            have b3 : decide (1 < (q : Int) + 2) = true := by simpa using b2
            go_wp2
            go_quiet (fail)
            clear w1 w2 t1
            go_wp2
            go_roundw
            case rel => exact ⟨k + 1, by omega, by go_num, by rw [HST.out, ← HFIN.out]; exact HA.out.drewN _⟩
            case measure => simp [intOf]; omega
        · obtain ⟨q, hq⟩ : ∃ q, p.length = q := ⟨_, rfl⟩
          have hlq : cur.length = q + 2 := by rw [hcur, ← hq]; simp
          obtain ⟨g2, cap2, hv2, hg2, hgl2, hcp2, hm62, hcells⟩ := own_form HA.out.r2 (by omega)
          have c1 : wr.cell? ⟨g2, q, none⟩ = some (.int .i64 m) := hcells q _ (by rw [hcur, ← hq]; simp [natV])
          have c2 : wr.cell? ⟨g2, q + 1, none⟩ = some (.int .i64 m) := hcells (q + 1) _ (by rw [hcur, ← hq]; simp [natV])
          obtain ⟨g1, cap1, hv1, hg1, hgl1, hcp1, hm61, hcells1⟩ := own_form HA.out.r1 (by omega)
          have d1 : wr.cell? ⟨g1, q, none⟩ = some (.string x) := hcells1 q _ (by rw [hcur, ← hq]; simp [strV])
          have d2 : wr.cell? ⟨g1, q + 1, none⟩ = some (.string y) := hcells1 (q + 1) _ (by rw [hcur, ← hq]; simp [strV])
          rw [hlq] at hv2 hv1
          subst hv2 hv1
          rw [hlq]
          rw [show ((q + 2 : Nat) : Int) = (q : Int) + 2 by simp]
          have hqb : q ≤ 1000000 := by omega
          have b4 : (q : Int) ≤ (cap1 : Int) := by omega
          have b5 : (q : Int) ≤ (cap2 : Int) := by omega
          have hxs : x.size = 32 := HA.out.dig (x, m) (by rw [hcur]; simp)
          have hys : y.size = 32 := HA.out.dig (y, m) (by rw [hcur]; simp)
          have hmb : 2 * m ≤ 1000000 := by
            obtain ⟨z, hz1, hz2⟩ := Dig.Merges.grows nodeB hnext (nodeB x y, 2 * m) (by simp)
            have := LE.out z hz1
            simp at hz2; omega
          have ND := Lib.hid (fun W (h : RoundLaid W) => Node_any x y (by omega) W h)
          have HQ := Lib.hid hq
          have HLQ := Lib.hid hlq
          have HCUR := Lib.hid hcur
          have HNX := Lib.hid hnext
          clear hcells hcells1 hcur hq hlq hM hxs hys hnext
          have h3 : ((m : Int) == (m : Int)) = true := by simp
          have w2 : IntKind.i64.wrap ((q : Int) + 2 - 2) = (q : Int) := by rw [IntWalk.i64_in _ (by omega)]; omega
          have w1 : IntKind.i64.wrap ((q : Int) + 2 - 1) = (q : Int) + 1 := by rw [IntWalk.i64_in _ (by omega)]; omega
          have w3 : IntKind.i64.wrap (q : Int) = (q : Int) := IntWalk.i64_in _ (by omega)
          have w4 : IntKind.i64.wrap ((q : Int) + 1) = (q : Int) + 1 := IntWalk.i64_in _ (by omega)
          have b6 : 0 ≤ (q : Int) + 1 := by omega
          have t1 : ((q : Int) + 1).toNat = q + 1 := by omega
          have b0 : (q : Int) < (q : Int) + 2 := by omega
          have b1 : (q : Int) + 1 < (q : Int) + 2 := by omega
          have b2 : 1 < (q : Int) + 2 := by omega
          have b3 : decide (1 < (q : Int) + 2) = true := by simpa using b2
          go_wp2
          go_quiet (fail)
          have HA2 := Lib.hid (HA.out.drewN nq)
          replace c2 : (wr.drewN nq).cell? ⟨g2, q + 1, none⟩ = some (.int .i64 m) := c2
          replace d1 : (wr.drewN nq).cell? ⟨g1, q, none⟩ = some (.string x) := d1
          replace d2 : (wr.drewN nq).cell? ⟨g1, q + 1, none⟩ = some (.string y) := d2
          replace hgl1 : g1 < (wr.drewN nq).heap.size := hgl1
          replace hgl2 : g2 < (wr.drewN nq).heap.size := hgl2
          clear HA c1
          generalize wr.drewN nq = Wa at *
          have hr1 := own_take (k := q) (by have h := HA2.out.r1; rw [HLQ.out] at h; exact h) (by omega)
          have hr2 := HA2.out.r2
          have e1 : (strV (cur.map (·.1))).take q = strV (p.map (·.1)) := by rw [HCUR.out, ← HQ.out]; simp [strV]
          rw [e1] at hr1
          have RA1 := Lib.hid hr1
          have RA2 := Lib.hid hr2
          clear hr1 hr2 e1
          go_wp2
          refine wp_region_noPanic ?_
          go_region_law (first
            | (refine step_append_lies _ (by rfl) _ _ _ (by rfl) w.heap.size 9 i9 _ 1 16 Tryd.underlying22 hi9 hz9 hy9 hb9 rfl (by omega) (.slice (some ⟨g1, 0, none⟩) q cap1) q _ (by rfl) (by exact (RW1.out.alloc _)) ⟨W5.heap.size, 0, none⟩ 1 1 [.string (nodeB x y)] (by rfl) (by rfl) (World.news_of_block (cs := #[.string (nodeB x y)]) (t := 9) (fr := (0, 0)) (heap_alloc_new _ _)) (by simp [Value.oneCell']) (by omega) (by simp only [maxLen]; omega) (by omega) (by have := BW.out.size; simp; omega) (W5.heap.size + 1) (by simp) ?_
               intro g3 cap3 W6 hown hgr hat hlt6)
            | (go_simp
               go_at_call 31
               refine (ND.out _ (by exact HR.out.below (HA2.out.below.drew))).mono ?_
               rintro e W5 ⟨rfl, hB5⟩
               have RW1 := Lib.hid (own_below RA1.out hB5.of_drew)
               have RW2 := Lib.hid (own_below RA2.out hB5.of_drew)
               have BW := Lib.hid hB5.of_drew
               clear hB5))
          all_goals refine NoPanic.normal ?_
          all_goals
            have Rn1 := Lib.hid hown
            have Rn2 := Lib.hid ((RW2.out.alloc (.cells #[.string (nodeB x y)] 9)).kept hgr (own_ne RW2.out RW1.out (by decide)))
            have Bn : Hid (Below w.heap.size w W6) := Lib.hid (((HA2.out.below.trans (BW.out.mono HA2.out.below.size)).alloc (Nat.le_trans HA2.out.below.size BW.out.size) _).grown hgr (by have := HA2.out.below.size; have := BW.out.size; simp; omega) (fun k e => by have e' : g1 = k := Option.some.inj e; omega))
            clear hown hgr hat RW1 RW2 BW RA1 RA2 d1 d2 c2
            have hr2 := own_take (k := q) (by have h := Rn2.out; rw [HLQ.out] at h; exact h) (by omega)
            have e2 : (natV (cur.map (·.2))).take q = natV (p.map (·.2)) := by rw [HCUR.out, ← HQ.out]; simp [natV]
            rw [e2] at hr2
            have RB2 := Lib.hid hr2
            have c2 : W6.cell? ⟨g2, q + 1, none⟩ = some (.int .i64 m) := by
              obtain ⟨g', cap', e', _, _, _, _, hcc⟩ := own_form Rn2.out (by have := HLQ.out; omega)
              injection e' with e1
              injection e1 with e1
              injection e1 with e1
              subst e1
              exact hcc (q + 1) _ (by rw [HCUR.out, ← HQ.out]; simp [natV])
            have hb6 := Bn.out.size
            clear hr2 e2 Rn2
            have w5 : IntKind.i64.wrap (2 * (m : Int)) = 2 * (m : Int) := IntWalk.i64_in _ (by omega)
            go_wp2
            refine wp_region_noPanic ?_
            go_region_law (refine step_append_lies _ (by rfl) _ _ _ (by rfl) w.heap.size 3 i3 _ 1 8 Tryd.underlying66 hi3 hz3 hy3 hb3 rfl (by omega) (.slice (some ⟨g2, 0, none⟩) q cap2) q _ (by rfl) (by exact ((RB2.out.alloc (.cells #[.int .i64 (2 * (m : Int))] 3)).drew)) ⟨W6.heap.size, 0, none⟩ 1 1 [.int .i64 (2 * (m : Int))] (by rfl) (by rfl) (World.news_of_block (cs := #[.int .i64 (2 * (m : Int))]) (t := 3) (fr := (0, 0)) (heap_alloc_new _ _)) (by simp [Value.oneCell']) (by omega) (by simp only [maxLen]; omega) (by omega) (by simp; omega) (W6.heap.size + 1) (by simp) ?_; intro g5 cap5 W7 hown hgr hat hlt7)
            all_goals refine NoPanic.normal ?_
            all_goals
              have AN : Hid (RootS w (p ++ [(nodeB x y, 2 * m)]) (.slice (some ⟨g3, 0, none⟩) (q + 1) cap3) (.slice (some ⟨g5, 0, none⟩) (q + 1) cap5) W7) := Lib.hid (HA2.out.merged HCUR.out HQ.out Rn1.out Bn.out hown RB2.out hgr (by omega))
              clear hown hgr hat Rn1 Bn RB2 c2 w1 w2 w3 w4 w5 t1
              go_wp2
              go_roundw
              case rel => exact ⟨_, by rw [List.length_append, HQ.out]; simp; omega, AN.out, HNX.out, by rw [List.length_append, HQ.out]; simp; omega⟩
              case measure => simp [intOf]; omega
    · obtain rfl : k = n := by omega
      have htk : l.take k = l := List.take_of_length_le (by rw [HN.out]; omega)
      rw [htk] at HA
      clear htk
      have FR : Hid (Dig.foldR nodeB empB (stkB l) = rootB l) := Lib.hid (Dig.foldR_stk leafB nodeB empB _ l rfl)
      have SB : Hid ((stkB l).length ≤ 1000000) := Lib.hid (by
        have := Dig.stk_length leafB nodeB empB _ l rfl
        have := HN.out
        unfold stkB; omega)
      generalize stkB l = st at *
      rcases snoc_cases st with hst | ⟨sL, r, hst⟩
      · subst hst
        obtain ⟨a0, c0, hv⟩ : ∃ a0 c0, u3 = .slice a0 0 c0 := by
          rcases HA.out.r1.2 with ⟨e, _⟩ | ⟨g, c, cur, e, _⟩
          · exact ⟨_, _, e⟩
          · exact ⟨_, _, e⟩
        subst hv
        have SU := Lib.hid (Sum_any ⟨#[]⟩ (by decide) wr (HR.out.below HA.out.below))
        have HB := Lib.hid HA.out.below
        clear HA
        go_wp2_with fail
        refine SU.out.mono ?_
        rintro e W1 ⟨rfl, hB1⟩
        have HB1 := Lib.hid (HB.out.trans (hB1.mono HB.out.size))
        clear hB1
        go_wp2
        exact ⟨_, results_tmp rfl _ _ _, by rw [← FR.out]; rfl, HB1.out⟩
      · have hls : st.length = sL.length + 1 := by rw [hst]; simp
        obtain ⟨L, hL⟩ : ∃ L, L = sL.map Prod.fst := ⟨_, rfl⟩
        have hs32 : ∀ x : Fin L.length, (L[x]).size = 32 := fun x => by
          subst hL
          have hx := x.2
          simp only [List.length_map] at hx
          show (((sL.map Prod.fst)[x.1]'x.2)).size = 32
          rw [List.getElem_map]
          exact HA.out.dig _ (by rw [hst]; simp)
        obtain ⟨q, hq⟩ : ∃ q, L.length = q := ⟨_, rfl⟩
        have hql : sL.length = q := by rw [← hq, hL]; simp
        obtain ⟨g1, cap1, hv1, hg1, hgl1, hcp1, hm61, hcells1⟩ := own_form HA.out.r1 (by omega)
        rw [hls, hql] at hv1
        subst hv1
        have hr32 : r.1.size = 32 := HA.out.dig r (by rw [hst]; simp)
        have c1 : wr.cell? ⟨g1, q, none⟩ = some (.string r.1) := hcells1 q _ (by rw [hst, ← hql]; simp [strV])
        have hcs : ∀ j x, L[j]? = some x → wr.cell? ⟨g1, 0 + j, none⟩ = some (.string x) := fun j x hj => by
          subst hL
          rw [Nat.zero_add]
          refine hcells1 j _ ?_
          have hj' : j < sL.length := by have := (List.getElem?_eq_some_iff.1 hj).1; simpa using this
          rw [hst]
          simp only [strV, List.map_append, List.getElem?_map] at hj ⊢
          rw [List.getElem?_append_left (by simpa using hj'), List.getElem?_map, List.getElem?_map]
          obtain ⟨z, hz, rfl⟩ := Option.map_eq_some_iff.1 hj
          rw [hz]; rfl
        have FR2 : Hid (L.foldr nodeB r.1 = rootB l) := Lib.hid (by rw [hL, ← FR.out, hst, foldR_snoc])
        have hqb : q ≤ 1000000 := by have := SB.out; omega
        have HB := Lib.hid HA.out.below
        have hcq : q + 1 ≤ cap1 := by omega
        clear HA FR SB hcells1 hls hst hql hL
        generalize r.1 = r0 at *
        have HCS := Lib.hid hcs
        have HS32 := Lib.hid hs32
        have HQ := Lib.hid hq
        clear hcs hs32 hq
        have z0 : ((q : Int) + 1 == 0) = false := beq_false_of_ne (by omega)
        have b0 : (q : Int) < (q : Int) + 1 := by omega
        have b1 : (q : Int) ≤ (cap1 : Int) := by omega
        go_wp2_with fail
        refine (Back_any _ rfl _).mono ?_
        rintro e W4 ⟨rfl, hW4⟩
        have HW4 := Lib.hid hW4
        clear hW4
        go_wp2
        have w4 := HW4.out
        have hBo : W4.heap[wr.heap.size]? = some (.cells #[.string r0] 9 (0, 0)) := by rw [← w4, allocOld (by simp)]; exact allocAt _ rfl
        have hBs : W4.heap[wr.heap.size + 1]? = some (.cells #[.slice (some ⟨g1, 0, none⟩) L.length cap1] 22 (0, 0)) := by rw [← w4, HQ.out]; exact allocAt _ (by simp)
        have hB4 : Below w.heap.size w W4 := by rw [← w4]; exact (HB.out.alloc HB.out.size _).alloc (by have := HB.out.size; simp; omega) _
        have hsz : W4.heap.size = wr.heap.size + 2 := by rw [← w4]; simp
        have hcs4 : ∀ j x, L[j]? = some x → W4.cell? ⟨g1, 0 + j, none⟩ = some (.string x) := fun j x hj => by
          rw [← w4, World.cell?_alloc_past _ _ _ (by simp; omega), World.cell?_alloc_past _ _ _ hgl1]; exact HCS.out j x hj
        have hR4 : RoundLaid W4 := HR.out.below hB4
        have hw0 : 0 < w.heap.size := ltOf HR.out.choose_spec
        have hw1 : w.heap.size ≤ wr.heap.size := HB.out.size
        have HBo := Lib.hid hBo
        have HBs := Lib.hid hBs
        have HB4 := Lib.hid hB4
        have HSZ := Lib.hid hsz
        have HCS4 := Lib.hid hcs4
        have HR4 := Lib.hid hR4
        clear w4 hBo hBs hB4 hsz hcs4 hR4 HW4 HCS
        have hno : ∀ r : ByteArray, r.size = 32 → ∀ x : Fin L.length, (nodeB L[x] r).size = 32 := fun r _ x => sumB_size _
        refine (wpIn_wide (n := 9)).1 ?_
        refine rangeG rfl (by omega) (gf := 86) (lb := #[.pointer (some ⟨wr.heap.size + 1, 0, none⟩)]) rfl trivial (enters_of Tryd.func86 (by kernel_rfl) rfl)
          (back_stops 8 (by omega) (wr.heap.size + 1) g1 0 cap1 L (by have := HQ.out; omega) W4 _ _ _ (fun _ => rfl) HBs.out (fun _ => by have := HSZ.out; omega) HCS4.out) KeepT.trans (KeepT.putObj (by have := HSZ.out; intro k hk; omega)) (Below.refl _ _) (fun _ => rfl)
          (fun (pre : List (Fin L.length)) W => W.heap[wr.heap.size]? = some (.cells #[.string (backF L pre r0)] 9 (0, 0)) ∧ Upd (· = wr.heap.size) W4 W)
          (fun _ _ _ => False)
          (OwnFrom.and (ownFrom_at wr.heap.size (fun pre => .cells #[.string (backF L pre r0)] 9 (0, 0)) (by have := HSZ.out; omega)) (ownFrom_upd (Nat.le_refl _)))
          (fun _ _ _ _ _ hs _ _ => hs)
          ⟨HBo.out, Upd.refl _ _⟩
          (fun x T => ((T.setIfInBounds 90 (.int .i64 (x.1 : Int))).setIfInBounds 91 (.string L[x])).setIfInBounds 10 (.string L[x])) ?assign ?body ?done ?stop
        case assign =>
          intro l x W K hK
          simp only [List.setIfInBounds_toArray, List.set_cons_zero, List.set_cons_succ] at hK
          gi_wp2
          exact hK
        case body =>
          rintro l pre x W ⟨hh, hU⟩ hlt
          have HH := Lib.hid hh
          have HU := Lib.hid hU
          have hcc : W.cell? ⟨wr.heap.size, 0, none⟩ = some (.string (backF L pre r0)) := by rw [cellOf hh]; rfl
          clear hh hU
          have hbs := backF_size L HS32.out pre r0 hr32
          have ND := Lib.hid (fun W (h : RoundLaid W) => Node_any L[x] (backF L pre r0) (by have := HS32.out x; omega) W h)
          have HSN := Lib.hid (backF_snoc L pre x r0)
          simp only [List.setIfInBounds_toArray, List.set_cons_zero, List.set_cons_succ]
          generalize backF L pre r0 = o1 at *
          generalize L[x] = sx at *
          gi_wp2
          refine ⟨trivial, ?_⟩
          refine (CallsIn.inRound l (callsIn_wide.2 (ND.out W (HR4.out.upd HU.out (by omega))))).mono ?_
          rintro e W' ⟨rfl, h2⟩
          have hh2 : W'.heap[wr.heap.size]? = some (.cells #[.string o1] 9 (0, 0)) := by rw [h2.block _ (ltOf HH.out)]; exact HH.out
          have cc2 : W'.cell? ⟨wr.heap.size, 0, none⟩ = some (.string o1) := by rw [cellOf hh2]; rfl
          have ff2 : W'.frozen? ⟨wr.heap.size, 0, none⟩ = false := frozenOf hh2 0
          have H2 := Lib.hid h2
          have HH2 := Lib.hid hh2
          clear h2 hh2
          gi_wp2
          have hU3 : Upd (· = wr.heap.size) W (W'.setCell ⟨wr.heap.size, 0, none⟩ (.string (nodeB sx o1))) := (Upd.of_below H2.out).setCell _ _ (.inl rfl)
          exact ⟨keepsFrom_of_upd hU3 (fun k hk => by have hk' : k = wr.heap.size := hk; have := HSZ.out; omega), KeepT.of_upd hU3 (fun k hk => ⟨by have := HU.out.size; have := HSZ.out; omega, fun e => by have hk' : k = wr.heap.size := e; omega⟩), by rw [setOf_ HH2.out 0 _, HSN.out]; rfl, HU.out.trans hU3 (fun _ _ h => h)⟩
        case done =>
          rintro D ys W hD rfl ⟨hh, hU⟩ hK
          have hcc : W.cell? ⟨wr.heap.size, 0, none⟩ = some (.string (rootB l)) := by rw [cellOf hh, backF_all, FR2.out]; rfl
          have HU := Lib.hid hU
          have HK := Lib.hid hK
          clear hh hU hK
          go_wp2
          refine ⟨by simp, .inl ⟨_, _, rfl, run_takeDeferred HK.out, ?_⟩⟩
          have hW : Below w.heap.size w W := HB4.out.trans (HU.out.below' (by have := HSZ.out; omega) (by intro i hi h; have h' : i = wr.heap.size := h; omega))
          exact ⟨_, results_tmp rfl _ _ _, rfl, hW.trans (belowK_b (w := w) (Nat.le_refl _) W D _ _ (by have := HSZ.out; omega) HK.out rfl rfl)⟩
        case stop =>
          rintro D c pre W _ _ h _
          exact h.elim
end Go.Proofs.YtljgphmdiflphaaDoor
namespace Dig
section
variable {α D : Type} (leaf : α → D) (node : D → D → D) (emp : D)

/-- the proof of an entry, the root's sibling first -/
def prfF : Nat → List α → Nat → List D
  | 0, _, _ => []
  | f + 1, l, i => if l.length ≤ 1 then [] else
    if i < lft l.length then root leaf node emp (l.drop (lft l.length)) :: prfF f (l.take (lft l.length)) i
    else root leaf node emp (l.take (lft l.length)) :: prfF f (l.drop (lft l.length)) (i - lft l.length)
def prf (l : List α) (i : Nat) : List D := prfF leaf node emp l.length l i

theorem prfF_fuel : ∀ (f g : Nat) (l : List α) (i : Nat), l.length ≤ f → l.length ≤ g → prfF leaf node emp f l i = prfF leaf node emp g l i := by
  intro f
  induction f with
  | zero =>
    intro g l i h1 h2
    cases g with
    | zero => rfl
    | succ g => rw [prfF, prfF, if_pos (by omega)]
  | succ f ih =>
    intro g l i h1 h2
    cases g with
    | zero => rw [prfF, prfF, if_pos (by omega)]
    | succ g =>
      rw [prfF, prfF]
      by_cases h : l.length ≤ 1
      · rw [if_pos h, if_pos h]
      · rw [if_neg h, if_neg h]
        have h3 := lft_lt (n := l.length) (by omega)
        have h4 := lft_pos l.length
        rw [ih g _ _ (by rw [List.length_take]; omega) (by rw [List.length_take]; omega), ih g _ _ (by rw [List.length_drop]; omega) (by rw [List.length_drop]; omega)]
theorem prf_one (l : List α) (i : Nat) (h : l.length ≤ 1) : prf leaf node emp l i = [] := by
  unfold prf
  cases hl : l.length with
  | zero => rfl
  | succ n => rw [prfF, if_pos h]
theorem prf_two (l : List α) (i : Nat) (h : 2 ≤ l.length) : prf leaf node emp l i =
    if i < lft l.length then root leaf node emp (l.drop (lft l.length)) :: prf leaf node emp (l.take (lft l.length)) i
    else root leaf node emp (l.take (lft l.length)) :: prf leaf node emp (l.drop (lft l.length)) (i - lft l.length) := by
  obtain ⟨n, hn⟩ : ∃ n, l.length = n + 1 := ⟨l.length - 1, by omega⟩
  have h3 := lft_lt (n := l.length) h
  have h4 := lft_pos l.length
  conv => lhs; unfold prf
  rw [hn, prfF, if_neg (by omega)]
  unfold prf
  rw [← hn]
  rw [prfF_fuel leaf node emp n (l.take (lft l.length)).length _ _ (by rw [List.length_take]; omega) (Nat.le_refl _), prfF_fuel leaf node emp n (l.drop (lft l.length)).length _ _ (by rw [List.length_drop]; omega) (Nat.le_refl _)]

/-- the way from the root to an entry: the sides, and what is left of the proof -/
def wayF : Nat → Nat → Nat → List D → Option (List (D × Bool) × List D)
  | 0, _, _, t => some ([], t)
  | f + 1, n, i, t => if n ≤ 1 then some ([], t) else
    match t with
    | [] => none
    | x :: t => if i < lft n then (wayF f (lft n) i t).map fun r => ((x, false) :: r.1, r.2)
      else (wayF f (n - lft n) (i - lft n) t).map fun r => ((x, true) :: r.1, r.2)
theorem wayF_zero (n i : Nat) (t : List D) : wayF 0 n i t = some ([], t) := rfl
theorem wayF_succ (f n i : Nat) (t : List D) : wayF (f + 1) n i t = if n ≤ 1 then some ([], t) else
    match t with
    | [] => none
    | x :: t => if i < lft n then (wayF f (lft n) i t).map fun r => ((x, false) :: r.1, r.2)
      else (wayF f (n - lft n) (i - lft n) t).map fun r => ((x, true) :: r.1, r.2) := by cases t <;> rfl
def way (n i : Nat) (t : List D) : Option (List (D × Bool) × List D) := wayF n n i t
theorem wayF_fuel : ∀ (f g n i : Nat) (t : List D), n ≤ f → n ≤ g → wayF f n i t = wayF g n i t := by
  intro f
  induction f with
  | zero =>
    intro g n i t h1 h2
    cases g with
    | zero => rfl
    | succ g => rw [wayF_zero, wayF_succ, if_pos (by omega)]
  | succ f ih =>
    intro g n i t h1 h2
    cases g with
    | zero => rw [wayF_succ, wayF_zero, if_pos (by omega)]
    | succ g =>
      rw [wayF_succ, wayF_succ]
      by_cases h : n ≤ 1
      · rw [if_pos h, if_pos h]
      · rw [if_neg h, if_neg h]
        have h3 := lft_lt (n := n) (by omega)
        have h4 := lft_pos n
        cases t with
        | nil => rfl
        | cons x t => simp only; rw [ih g _ _ _ (by omega) (by omega), ih g _ _ _ (by omega) (by omega)]
theorem way_one (n i : Nat) (t : List D) (h : n ≤ 1) : way n i t = some ([], t) := by
  unfold way
  cases n with
  | zero => rfl
  | succ n => rw [wayF_succ, if_pos h]
theorem way_nil (n i : Nat) (h : 2 ≤ n) : way (D := D) n i [] = none := by
  unfold way
  cases n with
  | zero => omega
  | succ n => rw [wayF_succ, if_neg (by omega)]
theorem way_cons (n i : Nat) (x : D) (t : List D) (h : 2 ≤ n) : way n i (x :: t) =
    if i < lft n then (way (lft n) i t).map fun r => ((x, false) :: r.1, r.2) else (way (n - lft n) (i - lft n) t).map fun r => ((x, true) :: r.1, r.2) := by
  have h3 := lft_lt (n := n) h
  have h4 := lft_pos n
  obtain ⟨m, rfl⟩ : ∃ m, n = m + 1 := ⟨n - 1, by omega⟩
  conv => lhs; unfold way
  rw [wayF_succ, if_neg (by omega)]
  simp only
  unfold way
  rw [wayF_fuel m (lft (m + 1)) _ _ _ (by omega) (Nat.le_refl _), wayF_fuel m (m + 1 - lft (m + 1)) _ _ _ (by omega) (Nat.le_refl _)]

/-- the value of a way -/
def join (s : D × Bool) (out : D) : D := if s.2 then node s.1 out else node out s.1
def value (v : D) (ws : List (D × Bool)) : D := ws.foldr (join node) v
theorem value_cons (v : D) (s : D × Bool) (ws : List (D × Bool)) : value node v (s :: ws) = join node s (value node v ws) := rfl

theorem way_prf : ∀ (n : Nat) (l : List α) (i : Nat) (h : i < l.length), l.length = n → ∃ ws, way n i (prf leaf node emp l i) = some (ws, []) ∧ value node (leaf l[i]) ws = root leaf node emp l := by
  intro n
  induction n using Nat.strongRecOn with
  | ind n ih =>
    intro l i hi hn
    by_cases h1 : l.length ≤ 1
    · rw [prf_one leaf node emp l i h1, way_one n i _ (by omega)]
      refine ⟨[], rfl, ?_⟩
      match l, h1, hi with
      | [x], _, hi =>
        obtain rfl : i = 0 := by simpa using hi
        rfl
    · have h3 := lft_lt (n := l.length) (by omega)
      have h4 := lft_pos l.length
      rw [prf_two leaf node emp l i (by omega), root_two leaf node emp l (by omega)]
      subst hn
      by_cases hlt : i < lft l.length
      · rw [if_pos hlt, way_cons _ _ _ _ (by omega), if_pos hlt]
        have hl : (l.take (lft l.length)).length = lft l.length := by rw [List.length_take]; omega
        obtain ⟨ws, h5, h6⟩ := ih (lft l.length) h3 (l.take (lft l.length)) i (by omega) hl
        rw [h5]
        refine ⟨_, rfl, ?_⟩
        rw [value_cons]
        have e : (l.take (lft l.length))[i]'(by omega) = l[i] := List.getElem_take
        rw [e] at h6
        simp only [h6]; rfl
      · rw [if_neg hlt, way_cons _ _ _ _ (by omega), if_neg hlt]
        have hl : (l.drop (lft l.length)).length = l.length - lft l.length := by rw [List.length_drop]
        obtain ⟨ws, h5, h6⟩ := ih (l.length - lft l.length) (by omega) (l.drop (lft l.length)) (i - lft l.length) (by omega) hl
        rw [h5]
        refine ⟨_, rfl, ?_⟩
        rw [value_cons]
        have e : (l.drop (lft l.length))[i - lft l.length]'(by omega) = l[i] := by
          rw [List.getElem_drop]; congr 1; omega
        rw [e] at h6
        simp only [h6]; rfl

/-- how long a way is -/
def depF : Nat → Nat → Nat → Nat
  | 0, _, _ => 0
  | f + 1, n, i => if n ≤ 1 then 0 else 1 + if i < lft n then depF f (lft n) i else depF f (n - lft n) (i - lft n)
theorem way_length : ∀ (f n i : Nat) (t : List D), (wayF f n i t).map (fun r => r.1.length + r.2.length) = if depF f n i ≤ t.length then some t.length else none := by
  intro f
  induction f with
  | zero => intro n i t; simp [wayF, depF]
  | succ f ih =>
    intro n i t
    rw [wayF_succ, depF]
    by_cases h : n ≤ 1
    · rw [if_pos h, if_pos h]; simp
    · rw [if_neg h, if_neg h]
      cases t with
      | nil => rw [if_neg (by simp)]; rfl
      | cons x t =>
        simp only
        by_cases hi : i < lft n
        · rw [if_pos hi, if_pos hi, Option.map_map]
          have := ih (lft n) i t
          cases hw : wayF f (lft n) i t with
          | none => rw [hw] at this; simp only [Option.map_none] at this ⊢
                    split at this
                    · cases this
                    · rw [if_neg (by simp; omega)]
          | some r => rw [hw] at this; simp only [Option.map_some] at this ⊢
                      split at this
                      · rename_i hd
                        injection this with this
                        rw [if_pos (by simp; omega)]
                        simp; omega
                      · cases this
        · rw [if_neg hi, if_neg hi, Option.map_map]
          have := ih (n - lft n) (i - lft n) t
          cases hw : wayF f (n - lft n) (i - lft n) t with
          | none => rw [hw] at this; simp only [Option.map_none] at this ⊢
                    split at this
                    · cases this
                    · rw [if_neg (by simp; omega)]
          | some r => rw [hw] at this; simp only [Option.map_some] at this ⊢
                      split at this
                      · rename_i hd
                        injection this with this
                        rw [if_pos (by simp; omega)]
                        simp; omega
                      · cases this
theorem way_sides : ∀ (f n i : Nat) (t : List D) (ws : List (D × Bool)) (r : List D), wayF f n i t = some (ws, r) → ws.length = depF f n i := by
  intro f
  induction f with
  | zero => intro n i t ws r h; simp only [wayF, Option.some.injEq, Prod.mk.injEq] at h; rw [← h.1]; rfl
  | succ f ih =>
    intro n i t ws r h
    rw [wayF_succ] at h
    rw [depF]
    by_cases h1 : n ≤ 1
    · rw [if_pos h1] at h ⊢
      simp only [Option.some.injEq, Prod.mk.injEq] at h; rw [← h.1]; rfl
    · rw [if_neg h1] at h ⊢
      cases t with
      | nil => cases h
      | cons x t =>
        simp only at h
        by_cases hi : i < lft n
        · rw [if_pos hi] at h ⊢
          obtain ⟨⟨ws', r'⟩, h2, h3⟩ := Option.map_eq_some_iff.1 h
          simp only [Prod.mk.injEq] at h3
          rw [← h3.1, List.length_cons, ih _ _ _ _ _ h2]; omega
        · rw [if_neg hi] at h ⊢
          obtain ⟨⟨ws', r'⟩, h2, h3⟩ := Option.map_eq_some_iff.1 h
          simp only [Prod.mk.injEq] at h3
          rw [← h3.1, List.length_cons, ih _ _ _ _ _ h2]; omega

/-! ### Extensions -/
/-- the proof that a list begins with m entries, the root's sibling first -/
def extF : Nat → List α → Nat → Bool → List D
  | 0, _, _, _ => []
  | f + 1, l, m, w => if m < l.length then
      if m ≤ lft l.length then root leaf node emp (l.drop (lft l.length)) :: extF f (l.take (lft l.length)) m w
      else root leaf node emp (l.take (lft l.length)) :: extF f (l.drop (lft l.length)) (m - lft l.length) false
    else if w then [] else [root leaf node emp l]
def ext (l : List α) (m : Nat) (w : Bool) : List D := extF leaf node emp (l.length + 1) l m w
theorem extF_fuel : ∀ (f g : Nat) (l : List α) (m : Nat) (w : Bool), 1 ≤ m → l.length < f → l.length < g → extF leaf node emp f l m w = extF leaf node emp g l m w := by
  intro f
  induction f with
  | zero => intro g l m w _ h1 h2; omega
  | succ f ih =>
    intro g l m w hm h1 h2
    cases g with
    | zero => omega
    | succ g =>
      rw [extF, extF]
      by_cases h : m < l.length
      · rw [if_pos h, if_pos h]
        have h3 := lft_lt (n := l.length) (by omega)
        have h4 := lft_pos l.length
        by_cases hk : m ≤ lft l.length
        · rw [if_pos hk, if_pos hk, ih g _ _ _ hm (by rw [List.length_take]; omega) (by rw [List.length_take]; omega)]
        · rw [if_neg hk, if_neg hk, ih g _ _ _ (by omega) (by rw [List.length_drop]; omega) (by rw [List.length_drop]; omega)]
      · rw [if_neg h, if_neg h]
theorem ext_end (l : List α) (m : Nat) (w : Bool) (h : l.length ≤ m) : ext leaf node emp l m w = if w then [] else [root leaf node emp l] := by
  unfold ext; rw [extF, if_neg (by omega)]
theorem ext_step (l : List α) (m : Nat) (w : Bool) (h1 : 1 ≤ m) (h : m < l.length) : ext leaf node emp l m w =
    if m ≤ lft l.length then root leaf node emp (l.drop (lft l.length)) :: ext leaf node emp (l.take (lft l.length)) m w
    else root leaf node emp (l.take (lft l.length)) :: ext leaf node emp (l.drop (lft l.length)) (m - lft l.length) false := by
  have h3 := lft_lt (n := l.length) (by omega)
  have h4 := lft_pos l.length
  conv => lhs; unfold ext
  rw [extF, if_pos h]
  unfold ext
  by_cases hk : m ≤ lft l.length
  · rw [if_pos hk, if_pos hk, extF_fuel leaf node emp l.length ((l.take (lft l.length)).length + 1) _ _ _ h1 (by rw [List.length_take]; omega) (by omega)]
  · rw [if_neg hk, if_neg hk, extF_fuel leaf node emp l.length ((l.drop (lft l.length)).length + 1) _ _ _ (by omega) (by rw [List.length_drop]; omega) (by omega)]

/-- the way from the root down to the end of m entries: the sides, what is left of the proof, and whether the part is whole -/
def wayEF : Nat → Nat → Nat → List D → Bool → Option (List (D × Bool) × List D × Bool)
  | 0, _, _, t, w => some ([], t, w)
  | f + 1, n, m, t, w => if m < n then
    match t with
    | [] => none
    | x :: t => if m ≤ lft n then (wayEF f (lft n) m t w).map fun r => ((x, false) :: r.1, r.2)
      else (wayEF f (n - lft n) (m - lft n) t false).map fun r => ((x, true) :: r.1, r.2)
    else some ([], t, w)
theorem wayEF_zero (n m : Nat) (t : List D) (w : Bool) : wayEF 0 n m t w = some ([], t, w) := rfl
theorem wayEF_succ (f n m : Nat) (t : List D) (w : Bool) : wayEF (f + 1) n m t w = if m < n then
    match t with
    | [] => none
    | x :: t => if m ≤ lft n then (wayEF f (lft n) m t w).map fun r => ((x, false) :: r.1, r.2)
      else (wayEF f (n - lft n) (m - lft n) t false).map fun r => ((x, true) :: r.1, r.2)
    else some ([], t, w) := by cases t <;> rfl
def wayE (n m : Nat) (t : List D) (w : Bool) : Option (List (D × Bool) × List D × Bool) := wayEF n n m t w
theorem wayEF_fuel : ∀ (f g n m : Nat) (t : List D) (w : Bool), 1 ≤ m → n ≤ f → n ≤ g → wayEF f n m t w = wayEF g n m t w := by
  intro f
  induction f with
  | zero =>
    intro g n m t w hm h1 h2
    cases g with
    | zero => rfl
    | succ g => rw [wayEF_zero, wayEF_succ, if_neg (by omega)]
  | succ f ih =>
    intro g n m t w hm h1 h2
    cases g with
    | zero => rw [wayEF_succ, wayEF_zero, if_neg (by omega)]
    | succ g =>
      rw [wayEF_succ, wayEF_succ]
      by_cases h : m < n
      · rw [if_pos h, if_pos h]
        have h3 := lft_lt (n := n) (by omega)
        have h4 := lft_pos n
        cases t with
        | nil => rfl
        | cons x t =>
          simp only
          by_cases hk : m ≤ lft n
          · rw [if_pos hk, if_pos hk, ih g _ _ _ _ hm (by omega) (by omega)]
          · rw [if_neg hk, if_neg hk, ih g _ _ _ _ (by omega) (by omega) (by omega)]
      · rw [if_neg h, if_neg h]
theorem wayE_end (n m : Nat) (t : List D) (w : Bool) (h : n ≤ m) : wayE n m t w = some ([], t, w) := by
  unfold wayE
  cases n with
  | zero => rfl
  | succ n => rw [wayEF_succ, if_neg (by omega)]
theorem wayE_nil (n m : Nat) (w : Bool) (h : m < n) : wayE (D := D) n m [] w = none := by
  unfold wayE
  cases n with
  | zero => omega
  | succ n => rw [wayEF_succ, if_pos (by omega)]
theorem wayE_cons (n m : Nat) (x : D) (t : List D) (w : Bool) (h1 : 1 ≤ m) (h : m < n) : wayE n m (x :: t) w =
    if m ≤ lft n then (wayE (lft n) m t w).map fun r => ((x, false) :: r.1, r.2) else (wayE (n - lft n) (m - lft n) t false).map fun r => ((x, true) :: r.1, r.2) := by
  have h3 := lft_lt (n := n) (by omega)
  have h4 := lft_pos n
  obtain ⟨k, rfl⟩ : ∃ k, n = k + 1 := ⟨n - 1, by omega⟩
  conv => lhs; unfold wayE
  rw [wayEF_succ, if_pos h]
  simp only
  unfold wayE
  by_cases hk : m ≤ lft (k + 1)
  · rw [if_pos hk, if_pos hk, wayEF_fuel k (lft (k + 1)) _ _ _ _ h1 (by omega) (Nat.le_refl _)]
  · rw [if_neg hk, if_neg hk, wayEF_fuel k (k + 1 - lft (k + 1)) _ _ _ _ (by omega) (by omega) (Nat.le_refl _)]

/-- the two values of a way -/
def first (v : D) (ws : List (D × Bool)) : D := ws.foldr (fun s o => if s.2 then join node s o else o) v
theorem first_cons (v : D) (s : D × Bool) (ws : List (D × Bool)) : first node v (s :: ws) = if s.2 then join node s (first node v ws) else first node v ws := rfl

end
end Dig
namespace Go.Proofs.YtljgphmdiflphaaDoor
open Go.RowKit
set_option linter.unusedVariables false

def prfB (l : List ByteArray) (i : Nat) : List ByteArray := Dig.prf leafB nodeB empB l i
theorem prfB_length : ∀ (n : Nat) (l : List ByteArray) (i : Nat), l.length = n → (prfB l i).length ≤ l.length := by
  intro n
  induction n using Nat.strongRecOn with
  | ind n ih =>
    intro l i hn
    unfold prfB
    by_cases h : l.length ≤ 1
    · rw [Dig.prf_one _ _ _ _ _ h]; simp
    · have h3 := Dig.lft_lt (n := l.length) (by omega)
      have h4 := Dig.lft_pos l.length
      rw [Dig.prf_two _ _ _ _ _ (by omega)]
      split
      · have := ih (l.take (Dig.lft l.length)).length (by rw [List.length_take]; omega) (l.take (Dig.lft l.length)) i rfl
        rw [List.length_take] at this
        simp only [List.length_cons]; unfold prfB at this; omega
      · have := ih (l.drop (Dig.lft l.length)).length (by rw [List.length_drop]; omega) (l.drop (Dig.lft l.length)) (i - Dig.lft l.length) rfl
        rw [List.length_drop] at this
        simp only [List.length_cons]; unfold prfB at this; omega

theorem SL.mk' {w : World} {b off n cap : Nat} {l : List ByteArray} (hn : l.length = n) (hc : n ≤ cap) (hb : b < w.heap.size) (hcs : ∀ j x, l[j]? = some x → w.cell? ⟨b, off + j, none⟩ = some (.string x)) : SL w (.slice (some ⟨b, off, none⟩) n cap) l :=
  ⟨_, cap, by rw [hn], by omega, fun _ => ⟨b, off, rfl, hb, hcs⟩⟩
theorem SL.out {w : World} {sv : Value} {l : List ByteArray} (h : SL w sv l) (h0 : 0 < l.length) : ∃ b off cap, sv = .slice (some ⟨b, off, none⟩) l.length cap ∧ l.length ≤ cap ∧ b < w.heap.size ∧ ∀ j x, l[j]? = some x → w.cell? ⟨b, off + j, none⟩ = some (.string x) := by
  obtain ⟨a, cap, e, h1, h2⟩ := h.form
  obtain ⟨b, off, ea, hb, hc⟩ := h2 h0
  subst ea
  exact ⟨b, off, cap, e, h1, hb, hc⟩
theorem SL.takeK {w : World} {b off cap n : Nat} {l : List ByteArray} (k : Nat) (hn : l.length = n) (hk : k ≤ n) (hc : n ≤ cap) (hb : b < w.heap.size) (hcs : ∀ j x, l[j]? = some x → w.cell? ⟨b, off + j, none⟩ = some (.string x)) : SL w (.slice (some ⟨b, off, none⟩) k cap) (l.take k) :=
  SL.mk' (by rw [List.length_take]; omega) (by omega) hb fun j x hj => by
    by_cases h : j < k
    · rw [List.getElem?_take, if_pos h] at hj; exact hcs j x hj
    · rw [List.getElem?_take, if_neg h] at hj; cases hj
theorem SL.dropK {w : World} {b off cap n : Nat} {l : List ByteArray} (k : Nat) (hn : l.length = n) (hk : k ≤ n) (hc : n ≤ cap) (hb : b < w.heap.size) (hcs : ∀ j x, l[j]? = some x → w.cell? ⟨b, off + j, none⟩ = some (.string x)) : SL w (.slice (some ⟨b, off + k, none⟩) (n - k) (cap - k)) (l.drop k) :=
  SL.mk' (by rw [List.length_drop]; omega) (by omega) hb fun j x hj => by
    rw [List.getElem?_drop] at hj
    rw [Nat.add_assoc]; exact hcs (k + j) x hj

theorem upd_setCells {S : Nat → Prop} {a : World} (b : Nat) (hb : S b ∨ a.heap.size ≤ b) : ∀ (vs : List Value) (o : Nat) (w : World), Upd S a w → Upd S a (w.setCells b o vs)
  | [], _, _, h => h
  | v :: r, o, w, h => upd_setCells b hb r (o + 1) _ (h.setCell _ _ hb)
/-- slices.Reverse of a row of the call's own. -/
theorem Rev_any (w : World) (base n : Nat) (v : Value) (acc : List ByteArray) (h : w.ownsRow base 9 1 v n (strV acc)) (hn : n ≤ 10000000) :
    Calls Tryd.prog 54 #[v] w fun e w' => e = .returned (.tuple #[]) ∧ SL w' v acc.reverse ∧ Upd (fun k => v.ownBlock = some k) w w' := by
  have hl : acc.length = n := by have := h.1; simpa [strV] using this
  by_cases h0 : n = 0
  · obtain rfl : acc = [] := List.eq_nil_of_length_eq_zero (by omega)
    obtain ⟨a, c, rfl⟩ : ∃ a c, v = .slice a 0 c := by
      rcases h.2 with ⟨e, _⟩ | ⟨g, c, cur, e, _⟩
      · exact ⟨_, _, e⟩
      · exact ⟨_, _, by rw [e, h0]⟩
    refine (Tryd.slices_Reverse_string_empty a c w).mono ?_
    rintro e w' ⟨rfl, rfl⟩
    exact ⟨rfl, ⟨a, c, rfl, Nat.zero_le _, fun h => absurd h (by simp)⟩, Upd.refl _ _⟩
  · obtain ⟨g, cap, rfl, hb, hg, hc, hm, hcells⟩ := own_form h (by omega)
    have hc2 : ∀ i, i < n → w.cell? ⟨g, 0 + i, none⟩ = some (.string (acc.getD i ByteArray.empty)) := fun i hi => by
      rw [Nat.zero_add]
      refine hcells i _ ?_
      simp only [strV, List.getElem?_map, List.getD_eq_getElem?_getD]
      rw [List.getElem?_eq_getElem (by omega)]; rfl
    have hf : ∀ j, j < n → w.frozen? ⟨g, 0 + j, none⟩ = false := fun j _ => by
      rcases h.2 with ⟨e, _⟩ | ⟨g', c', cur, e, _, hg', _⟩
      · cases e
      · injection e with e
        injection e with e
        injection e with e
        subst e
        exact frozenOf hg' _
    refine (Tryd.slices_Reverse_string_cells g 0 n cap (fun i => acc.getD i ByteArray.empty) w (by omega) hc2 hf).mono ?_
    rintro e w' ⟨rfl, q, rfl⟩
    have hvs : (Lib.strsOf (fun i => acc.getD i ByteArray.empty) n).reverse.map encStr = strV acc.reverse := by
      rw [strV, List.map_reverse, List.map_reverse]
      congr 1
      rw [Lib.strsOf, List.map_map]
      apply List.ext_getElem
      · simp [hl]
      · intro i h1 h2
        simp at h1
        simp [List.getD_eq_getElem?_getD, List.getElem?_eq_getElem (show i < acc.length by omega)]
    rw [hvs]
    refine ⟨rfl, SL.mk' (by rw [List.length_reverse, hl]) hc ?_ ?_, upd_setCells (S := fun k => (Value.slice (some ⟨g, 0, none⟩) n cap).ownBlock = some k) g (.inl rfl) _ _ _ ((Upd.refl _ w).drewN q)⟩
    · exact Nat.lt_of_lt_of_le hg (upd_setCells (S := fun _ => True) g (.inl trivial) _ _ _ ((Upd.refl _ w).drewN q)).size
    · intro j x hj
      have hjl : j < acc.length := by have := (List.getElem?_eq_some_iff.1 hj).1; simpa using this
      rw [World.cell?_setCells_in g (strV acc.reverse) 0 _ (fun j hj => by
        have hj' : j < n := by simp [strV] at hj; omega
        show (w.cell? ⟨g, 0 + j, none⟩).isSome = true
        rw [hc2 j hj']; rfl) j (by simp [strV]; omega)]
      simp only [strV, List.getElem_map]
      have := (List.getElem?_eq_some_iff.1 hj).2
      rw [this]

set_option maxHeartbeats 1000000 in
theorem Proof_bad (w : World) (sv : Value) (l : List ByteArray) (hsl : SL w sv l) (i : Int) (h : ¬ (0 ≤ i ∧ i < l.length)) :
    Calls Tryd.prog 15 #[sv, .int .i64 i] w fun e w' => e = .returned (.tuple #[.slice none 0 0, .int .i64 2]) ∧ w = w' := by
  obtain ⟨a, cap, rfl, hcp, hne⟩ := hsl.form
  clear hne hsl
  by_cases h0 : i < 0
  · have h1 : decide (i < 0) = true := by simpa using h0
    clear h
    go_enter Tryd.func15, Tryd.ntmps15
    go_wp2
    go_step3
    go_wp2
    rw [Exit.noGoto_ret]
    go_ret2
    exact ⟨rfl, rfl⟩
  · have h1 : decide (i < 0) = false := by simpa using h0
    have h2 : (l.length : Int) ≤ i := by omega
    clear h
    go_enter Tryd.func15, Tryd.ntmps15
    go_wp2
    go_step3
    go_wp2
    rw [Exit.noGoto_ret]
    go_ret2
    exact ⟨rfl, rfl⟩

/-- On the way down: what is left of the list, the place in it, and the proof so far. -/
def ProofS (w : World) (l : List ByteArray) (i : Nat) (lv : Value) (j : Int) (ov : Value) (wr : World) : Prop :=
  ∃ (cur : List ByteArray) (q : Nat) (acc : List ByteArray), SL w lv cur ∧ j = (q : Int) ∧ q < cur.length ∧ wr.ownsRow w.heap.size 9 1 ov acc.length (strV acc) ∧ Below w.heap.size w wr ∧ acc ++ prfB cur q = prfB l i ∧ (∀ x ∈ cur, x ∈ l) ∧ cur.length ≤ l.length

set_option maxRecDepth 100000 in
set_option maxHeartbeats 4000000 in
theorem Proof_ok (w : World) (sv : Value) (l : List ByteArray) (hsl : SL w sv l) (hlen : l.length ≤ 1000000) (hs : ∀ s ∈ l, s.size ≤ 800000) (hR : RoundLaid w) (i : Nat) (hi : i < l.length) :
    Calls Tryd.prog 15 #[sv, .int .i64 (i : Int)] w fun e w' => ∃ v, e = .returned (.tuple #[v, .int .i64 0]) ∧ SL w' v (prfB l i).reverse ∧ Below w.heap.size w w' := by
  obtain ⟨i9, hi9, hz9, hy9, hb9⟩ := info_parts Tryd.infoStr
  obtain ⟨b, off, cap, rfl, hcp, hbl, hcs⟩ := hsl.out (by omega)
  obtain ⟨n, hn⟩ : ∃ n, l.length = n := ⟨_, rfl⟩
  have HS := Lib.hid hs
  have HR := Lib.hid hR
  have HSL := Lib.hid hsl
  rw [hn] at hlen hi hcp HSL ⊢
  have HN := Lib.hid hn
  clear hn hsl hs hR hcs
  have h0 : ¬ (i : Int) < 0 := by omega
  have h1 : ¬ (n : Int) ≤ (i : Int) := by omega
  have h0b : decide ((i : Int) < 0) = false := decide_eq_false h0
  have h1b : decide (n ≤ i) = false := decide_eq_false (by omega)
  go_enter Tryd.func15, Tryd.ntmps15
  go_wp2
  go_step3
  go_wp2
  go_step3
  go_wp2
  have P0 : Hid (ProofS w l i (.slice (some ⟨b, off, none⟩) n cap) (i : Int) (.slice none 0 0) w) :=
    Lib.hid ⟨l, i, [], HSL.out, rfl, by rw [HN.out]; exact hi, World.ownsRow_nil _ _ _ _, Below.refl _ _, rfl, fun x h => h, by rw [HN.out]; omega⟩
  go_loopw [0, 1, 6, 7, 8, 9] (fun lv iv ov _ _ _ wr => ∃ j : Int, iv = .int .i64 j ∧ ProofS w l i lv j ov wr) (fun lv _ _ _ _ _ _ => vlen lv)
  case atStart => exact ⟨i, rfl, P0.out⟩
  case round =>
    clear P0
    obtain ⟨j, rfl, hP⟩ := hrel
    obtain ⟨cur, q, acc, hcur, rfl, hq, hown, hbel, hacc, hsub, hln⟩ := hP
    obtain ⟨b2, off2, cap2, rfl, hcp2, hbl2, hcs2⟩ := hcur.out (by omega)
    obtain ⟨m, hm⟩ : ∃ m, cur.length = m := ⟨_, rfl⟩
    rw [hm] at hcp2 hq ⊢
    have hmb : m ≤ 1000000 := by rw [← hm]; rw [HN.out] at hln; omega
    have HM := Lib.hid hm
    have HOWN := Lib.hid hown
    have HBEL := Lib.hid hbel
    have HACC := Lib.hid hacc
    have HSUB := Lib.hid hsub
    have HCS2 := Lib.hid hcs2
    have HLN := Lib.hid hln
    clear hm hcur hown hbel hacc hsub hcs2 hln
    by_cases h1' : m = 1
    · subst h1'
      have EQ := Lib.hid (Dig.prf_one leafB nodeB empB cur q (by have := HM.out; omega))
      have EA : Hid (acc = prfB l i) := Lib.hid (by have h := HACC.out; rw [prfB, EQ.out, List.append_nil] at h; exact h)
      have ACL : acc.length ≤ 1000000 := by rw [EA.out]; have h2 := prfB_length _ l i rfl; have := HN.out; omega
      have RV := Lib.hid (Rev_any wr w.heap.size acc.length u6 acc HOWN.out (by omega))
      go_wp2_with fail
      refine RV.out.mono ?_
      rintro e W3 ⟨rfl, hsl, hu⟩
      have H3 := Lib.hid hsl
      have B3 := Lib.hid (HBEL.out.trans (hu.below' HBEL.out.size (by intro i hi h; have := (HOWN.out.lt _ h).1; omega)))
      clear hsl hu
      go_wp2
      rw [Exit.noGoto_ret]
      go_ret2
      exact ⟨u6, rfl, by rw [← EA.out]; exact H3.out, B3.out⟩
    · have hne : ((m : Int) == 1) = false := beq_false_of_ne (by omega)
      obtain ⟨k, hk⟩ : ∃ k, Dig.lft m = k := ⟨_, rfl⟩
      have hk1 := Dig.lft_lt (n := m) (by omega)
      have hk0 := Dig.lft_pos m
      rw [hk] at hk1 hk0
      have LE := Lib.hid (left_any m (by omega) (by omega))
      rw [hk] at LE
      have HK := Lib.hid hk
      clear hk h1'
      have b0 : (k : Int) ≤ (m : Int) := by omega
      have b1 : (m : Int) ≤ (cap2 : Int) := by omega
      have b3 : (k : Int) ≤ (cap2 : Int) := by omega
      go_wp2_with fail
      refine (LE.out _).mono ?_
      rintro e w' ⟨rfl, rfl⟩
      go_wp2
      go_quiet (fail)
      have BW : Hid (Below w.heap.size w (wr.drewN nq)) := Lib.hid ⟨HBEL.out.os, HBEL.out.tape, HBEL.out.output, HBEL.out.size, HBEL.out.block⟩
      have OW : Hid ((wr.drewN nq).ownsRow w.heap.size 9 1 u6 acc.length (strV acc)) := HOWN
      clear HBEL HOWN
      generalize wr.drewN nq = W2 at *
      have EQ := Lib.hid (Dig.prf_two leafB nodeB empB cur q (by have := HM.out; omega))
      have ACL : Hid (acc.length ≤ 2000000) := Lib.hid (by
        have h1 := congrArg List.length HACC.out
        rw [List.length_append] at h1
        have h2 := prfB_length _ l i rfl
        have := HN.out; omega)
      by_cases hqk : q < k
      · have HRT := Lib.hid (Root_any W2 (.slice (some ⟨b2, off2 + k, none⟩) (m - k) (cap2 - k)) (cur.drop k) ((SL.dropK k HM.out (by omega) hcp2 hbl2 HCS2.out).below BW.out) (by rw [List.length_drop]; have := HM.out; omega) (fun x hx => HS.out x (HSUB.out x (List.mem_of_mem_drop hx))) (HR.out.below BW.out))
        have hqk' : ¬ (k : Int) ≤ (q : Int) := by omega
        go_wp2_with fail
        refine HRT.out.mono ?_
        rintro e W3 ⟨rfl, hB3⟩
        have OW3 := Lib.hid (own_below OW.out hB3)
        have BW3 := Lib.hid (BW.out.trans (hB3.mono BW.out.size))
        clear hB3 OW BW
        have hz3 := BW3.out.size
        go_wp2_with (at_builtin; refine wpList_append_own _ rfl (.tmp 38) (.tmp 41) 22 rfl w.heap.size 9 i9 _ 1 16 Tryd.underlying22 hi9 hz9 hy9 hb9 rfl (by decide) _ _ _ rfl (OW3.out.alloc _) ⟨W3.heap.size, 0, none⟩ 1 1 [.string (rootB (cur.drop k))] rfl rfl (cell_one_new _ _ _) (by simp [Value.oneCell']) (by have := ACL.out; simp only [maxLen]; omega) (by have := ACL.out; omega) (by simp; omega) ?_; intro v3 W4 hown hgr _; have O4 := Lib.hid hown; have G4 := Lib.hid hgr; clear hown hgr)
        go_roundw
        case rel =>
          have R : ProofS w l i (.slice (some ⟨b2, off2, none⟩) k cap2) (q : Int) v3 W4 := ⟨cur.take k, q, acc ++ [rootB (cur.drop k)], SL.takeK k HM.out (by omega) hcp2 hbl2 HCS2.out, rfl, by rw [List.length_take, HM.out]; omega, by rw [List.length_append]; simpa [strV] using O4.out, (BW3.out.alloc BW3.out.size _).grown G4.out (by simp; omega) (fun k e => (OW3.out.lt k e).1), by
          have h := EQ.out
          rw [HM.out, HK.out, if_pos hqk] at h
          rw [← HACC.out, List.append_assoc]; congr 1; exact h.symm, fun x hx => HSUB.out x (List.mem_of_mem_take hx), by have := HLN.out; rw [List.length_take]; omega⟩
          first | exact ⟨_, rfl, R⟩ | ((repeat apply Exists.intro); exact ⟨⟨_, rfl, R⟩, rfl⟩)
        case measure => simp [vlen]; omega
      · have HRT := Lib.hid (Root_any W2 (.slice (some ⟨b2, off2, none⟩) k cap2) (cur.take k) ((SL.takeK k HM.out (by omega) hcp2 hbl2 HCS2.out).below BW.out) (by rw [List.length_take]; have := HM.out; omega) (fun x hx => HS.out x (HSUB.out x (List.mem_of_mem_take hx))) (HR.out.below BW.out))
        have hqk' : (k : Int) ≤ (q : Int) := by omega
        go_wp2_with fail
        refine HRT.out.mono ?_
        rintro e W3 ⟨rfl, hB3⟩
        have OW3 := Lib.hid (own_below OW.out hB3)
        have BW3 := Lib.hid (BW.out.trans (hB3.mono BW.out.size))
        clear hB3 OW BW
        have hz3 := BW3.out.size
        go_wp2_with (at_builtin; refine wpList_append_own _ rfl (.tmp 38) (.tmp 41) 22 rfl w.heap.size 9 i9 _ 1 16 Tryd.underlying22 hi9 hz9 hy9 hb9 rfl (by decide) _ _ _ rfl (OW3.out.alloc _) ⟨W3.heap.size, 0, none⟩ 1 1 [.string (rootB (cur.take k))] rfl rfl (cell_one_new _ _ _) (by simp [Value.oneCell']) (by have := ACL.out; simp only [maxLen]; omega) (by have := ACL.out; omega) (by simp; omega) ?_; intro v3 W4 hown hgr _; have O4 := Lib.hid hown; have G4 := Lib.hid hgr; clear hown hgr)
        go_roundw
        case rel =>
          have R : ProofS w l i (.slice (some ⟨b2, off2 + k, none⟩) (m - k) (cap2 - k)) ((q : Int) - (k : Int)) v3 W4 := ⟨cur.drop k, q - k, acc ++ [rootB (cur.take k)], SL.dropK k HM.out (by omega) hcp2 hbl2 HCS2.out, by omega, by rw [List.length_drop, HM.out]; omega, by rw [List.length_append]; simpa [strV] using O4.out, (BW3.out.alloc BW3.out.size _).grown G4.out (by simp; omega) (fun k e => (OW3.out.lt k e).1), by
          have h := EQ.out
          rw [HM.out, HK.out, if_neg hqk] at h
          rw [← HACC.out, List.append_assoc]; congr 1; exact h.symm, fun x hx => HSUB.out x (List.mem_of_mem_drop hx), by have := HLN.out; rw [List.length_drop]; omega⟩
          first | exact ⟨_, rfl, R⟩ | ((repeat apply Exists.intro); exact ⟨⟨_, rfl, R⟩, rfl⟩)
        case measure => simp [vlen]; omega
end Go.Proofs.YtljgphmdiflphaaDoor
namespace Go.Proofs.YtljgphmdiflphaaDoor
open Go.RowKit
set_option linter.unusedVariables false

def extB (l : List ByteArray) (m : Nat) (w : Bool) : List ByteArray := Dig.ext leafB nodeB empB l m w
theorem extB_length : ∀ (n : Nat) (l : List ByteArray) (m : Nat) (w : Bool), 1 ≤ m → l.length = n → (extB l m w).length ≤ l.length + 1 := by
  intro n
  induction n using Nat.strongRecOn with
  | ind n ih =>
    intro l m w hm hn
    unfold extB
    by_cases h : l.length ≤ m
    · rw [Dig.ext_end _ _ _ _ _ _ h]; split <;> simp
    · have h3 := Dig.lft_lt (n := l.length) (by omega)
      have h4 := Dig.lft_pos l.length
      rw [Dig.ext_step _ _ _ _ _ _ hm (by omega)]
      split
      · have := ih (l.take (Dig.lft l.length)).length (by rw [List.length_take]; omega) (l.take (Dig.lft l.length)) m w hm rfl
        rw [List.length_take] at this
        simp only [List.length_cons]; unfold extB at this; omega
      · have := ih (l.drop (Dig.lft l.length)).length (by rw [List.length_drop]; omega) (l.drop (Dig.lft l.length)) (m - Dig.lft l.length) false (by omega) rfl
        rw [List.length_drop] at this
        simp only [List.length_cons]; unfold extB at this; omega

set_option maxHeartbeats 1000000 in
theorem Ext_bad (w : World) (sv : Value) (l : List ByteArray) (hsl : SL w sv l) (m : Int) (h : ¬ (0 ≤ m ∧ m ≤ l.length)) :
    Calls Tryd.prog 17 #[sv, .int .i64 m] w fun e w' => e = .returned (.tuple #[.slice none 0 0, .int .i64 2]) ∧ w = w' := by
  obtain ⟨a, cap, rfl, hcp, hne⟩ := hsl.form
  clear hne hsl
  by_cases h0 : m < 0
  · have h1 : decide (m < 0) = true := by simpa using h0
    clear h
    go_enter Tryd.func17, Tryd.ntmps17
    go_wp2
    go_ret2
    exact ⟨rfl, rfl⟩
  · have h1 : decide (m < 0) = false := by simpa using h0
    have h2 : (l.length : Int) < m := by omega
    clear h
    go_enter Tryd.func17, Tryd.ntmps17
    go_wp2
    go_ret2
    exact ⟨rfl, rfl⟩

set_option maxHeartbeats 1000000 in
theorem Ext_zero (w : World) (sv : Value) (l : List ByteArray) (hsl : SL w sv l) :
    Calls Tryd.prog 17 #[sv, .int .i64 0] w fun e w' => e = .returned (.tuple #[.slice none 0 0, .int .i64 0]) ∧ w = w' := by
  obtain ⟨a, cap, rfl, hcp, hne⟩ := hsl.form
  clear hne hsl
  go_enter Tryd.func17, Tryd.ntmps17
  go_wp2
  go_ret2
  exact ⟨rfl, rfl⟩

/-- On the way down. -/
def ExtS (w : World) (l : List ByteArray) (m : Nat) (lv : Value) (j : Int) (ov : Value) (b : Bool) (wr : World) : Prop :=
  ∃ (cur : List ByteArray) (q : Nat) (acc : List ByteArray), SL w lv cur ∧ j = (q : Int) ∧ 1 ≤ q ∧ q ≤ cur.length ∧ wr.ownsRow w.heap.size 9 1 ov acc.length (strV acc) ∧ Below w.heap.size w wr ∧ acc ++ extB cur q b = extB l m true ∧ (∀ x ∈ cur, x ∈ l) ∧ cur.length ≤ l.length

set_option maxRecDepth 100000 in
set_option maxHeartbeats 4000000 in
theorem Ext_ok (w : World) (sv : Value) (l : List ByteArray) (hsl : SL w sv l) (hlen : l.length ≤ 1000000) (hs : ∀ s ∈ l, s.size ≤ 800000) (hR : RoundLaid w) (m : Nat) (hm1 : 1 ≤ m) (hm : m ≤ l.length) :
    Calls Tryd.prog 17 #[sv, .int .i64 (m : Int)] w fun e w' => ∃ v, e = .returned (.tuple #[v, .int .i64 0]) ∧ SL w' v (extB l m true).reverse ∧ Below w.heap.size w w' := by
  obtain ⟨i9, hi9, hz9, hy9, hb9⟩ := info_parts Tryd.infoStr
  obtain ⟨b, off, cap, rfl, hcp, hbl, hcs⟩ := hsl.out (by omega)
  obtain ⟨n, hn⟩ : ∃ n, l.length = n := ⟨_, rfl⟩
  have HS := Lib.hid hs
  have HR := Lib.hid hR
  have HSL := Lib.hid hsl
  rw [hn] at hlen hm hcp HSL ⊢
  have HN := Lib.hid hn
  clear hn hsl hs hR hcs
  have h0 : ¬ (m : Int) < 0 := by omega
  have h0b : decide ((m : Int) < 0) = false := decide_eq_false h0
  have h1b : decide (n < m) = false := decide_eq_false (by omega)
  have h2b : ((m : Int) == 0) = false := beq_false_of_ne (by omega)
  go_enter Tryd.func17, Tryd.ntmps17
  go_wp2
  have P0 : Hid (ExtS w l m (.slice (some ⟨b, off, none⟩) n cap) (m : Int) (.slice none 0 0) true w) :=
    Lib.hid ⟨l, m, [], HSL.out, rfl, hm1, by rw [HN.out]; exact hm, World.ownsRow_nil _ _ _ _, Below.refl _ _, rfl, fun x h => h, by rw [HN.out]; omega⟩
  go_loopw [0, 1, 6, 7, 8, 9, 10] (fun lv iv ov bv _ _ _ wr => ∃ (j : Int) (c : Bool), iv = .int .i64 j ∧ bv = .bool c ∧ ExtS w l m lv j ov c wr) (fun lv _ _ _ _ _ _ _ => vlen lv)
  case atStart => exact ⟨m, true, rfl, rfl, P0.out⟩
  case round =>
    clear P0
    obtain ⟨j, c, rfl, rfl, hP⟩ := hrel
    obtain ⟨cur, q, acc, hcur, rfl, hq1, hq, hown, hbel, hacc, hsub, hln⟩ := hP
    obtain ⟨b2, off2, cap2, rfl, hcp2, hbl2, hcs2⟩ := hcur.out (by omega)
    obtain ⟨r, hr⟩ : ∃ r, cur.length = r := ⟨_, rfl⟩
    have HCUR := Lib.hid hcur
    rw [hr] at hcp2 hq HCUR ⊢
    have hrb : r ≤ 1000000 := by rw [← hr]; rw [HN.out] at hln; omega
    have HM := Lib.hid hr
    have HOWN := Lib.hid hown
    have HBEL := Lib.hid hbel
    have HACC := Lib.hid hacc
    have HSUB := Lib.hid hsub
    have HCS2 := Lib.hid hcs2
    have HLN := Lib.hid hln
    have ACL : acc.length ≤ 1000001 := by
      have h1 := congrArg List.length hacc
      rw [List.length_append] at h1
      have h2 := extB_length _ l m true hm1 rfl
      have := HN.out; omega
    clear hr hcur hown hbel hacc hsub hcs2 hln
    by_cases h1' : q < r
    · obtain ⟨k, hk⟩ : ∃ k, Dig.lft r = k := ⟨_, rfl⟩
      have hk1 := Dig.lft_lt (n := r) (by omega)
      have hk0 := Dig.lft_pos r
      rw [hk] at hk1 hk0
      have LE := Lib.hid (left_any r (by omega) (by omega))
      rw [hk] at LE
      have HK := Lib.hid hk
      clear hk
      have b0 : (k : Int) ≤ (r : Int) := by omega
      have b1 : (r : Int) ≤ (cap2 : Int) := by omega
      have b3 : (k : Int) ≤ (cap2 : Int) := by omega
      go_wp2_with fail
      refine (LE.out _).mono ?_
      rintro e w' ⟨rfl, rfl⟩
      go_wp2
      go_quiet (fail)
      have BW : Hid (Below w.heap.size w (wr.drewN nq)) := Lib.hid ⟨HBEL.out.os, HBEL.out.tape, HBEL.out.output, HBEL.out.size, HBEL.out.block⟩
      have OW : Hid ((wr.drewN nq).ownsRow w.heap.size 9 1 u6 acc.length (strV acc)) := HOWN
      clear HBEL HOWN
      generalize wr.drewN nq = W2 at *
      have EQ := Lib.hid (Dig.ext_step leafB nodeB empB cur q c hq1 (by have := HM.out; omega))
      by_cases hqk : q ≤ k
      · have HRT := Lib.hid (Root_any W2 (.slice (some ⟨b2, off2 + k, none⟩) (r - k) (cap2 - k)) (cur.drop k) ((SL.dropK k HM.out (by omega) hcp2 hbl2 HCS2.out).below BW.out) (by rw [List.length_drop]; have := HM.out; omega) (fun x hx => HS.out x (HSUB.out x (List.mem_of_mem_drop hx))) (HR.out.below BW.out))
        have hqk' : ¬ (k : Int) < (q : Int) := by omega
        go_wp2_with fail
        refine HRT.out.mono ?_
        rintro e W3 ⟨rfl, hB3⟩
        have OW3 := Lib.hid (own_below OW.out hB3)
        have BW3 := Lib.hid (BW.out.trans (hB3.mono BW.out.size))
        clear hB3 OW BW
        have hz3 := BW3.out.size
        go_wp2_with (at_builtin; refine wpList_append_own _ rfl (.tmp 44) (.tmp 47) 22 rfl w.heap.size 9 i9 _ 1 16 Tryd.underlying22 hi9 hz9 hy9 hb9 rfl (by decide) _ _ _ rfl (OW3.out.alloc _) ⟨W3.heap.size, 0, none⟩ 1 1 [.string (rootB (cur.drop k))] rfl rfl (cell_one_new _ _ _) (by simp [Value.oneCell']) (by simp only [maxLen]; omega) (by omega) (by simp; omega) ?_; intro v3 W4 hown hgr _; have O4 := Lib.hid hown; have G4 := Lib.hid hgr; clear hown hgr)
        go_roundw
        case rel =>
          have R : ExtS w l m (.slice (some ⟨b2, off2, none⟩) k cap2) (q : Int) v3 c W4 := ⟨cur.take k, q, acc ++ [rootB (cur.drop k)], SL.takeK k HM.out (by omega) hcp2 hbl2 HCS2.out, rfl, hq1, by rw [List.length_take, HM.out]; omega, by rw [List.length_append]; simpa [strV] using O4.out, (BW3.out.alloc BW3.out.size _).grown G4.out (by simp; omega) (fun k e => (OW3.out.lt k e).1), by
            have h := EQ.out
            rw [HM.out, HK.out, if_pos hqk] at h
            rw [← HACC.out, List.append_assoc]; congr 1; exact h.symm, fun x hx => HSUB.out x (List.mem_of_mem_take hx), by have := HLN.out; rw [List.length_take]; omega⟩
          first | exact ⟨_, _, rfl, rfl, R⟩ | ((repeat apply Exists.intro); exact ⟨⟨_, _, rfl, rfl, R⟩, rfl⟩)
        case measure => simp [vlen]; omega
      · have HRT := Lib.hid (Root_any W2 (.slice (some ⟨b2, off2, none⟩) k cap2) (cur.take k) ((SL.takeK k HM.out (by omega) hcp2 hbl2 HCS2.out).below BW.out) (by rw [List.length_take]; have := HM.out; omega) (fun x hx => HS.out x (HSUB.out x (List.mem_of_mem_take hx))) (HR.out.below BW.out))
        have hqk' : (k : Int) < (q : Int) := by omega
        go_wp2_with fail
        refine HRT.out.mono ?_
        rintro e W3 ⟨rfl, hB3⟩
        have OW3 := Lib.hid (own_below OW.out hB3)
        have BW3 := Lib.hid (BW.out.trans (hB3.mono BW.out.size))
        clear hB3 OW BW
        have hz3 := BW3.out.size
        go_wp2_with (at_builtin; refine wpList_append_own _ rfl (.tmp 44) (.tmp 47) 22 rfl w.heap.size 9 i9 _ 1 16 Tryd.underlying22 hi9 hz9 hy9 hb9 rfl (by decide) _ _ _ rfl (OW3.out.alloc _) ⟨W3.heap.size, 0, none⟩ 1 1 [.string (rootB (cur.take k))] rfl rfl (cell_one_new _ _ _) (by simp [Value.oneCell']) (by simp only [maxLen]; omega) (by omega) (by simp; omega) ?_; intro v3 W4 hown hgr _; have O4 := Lib.hid hown; have G4 := Lib.hid hgr; clear hown hgr)
        go_roundw
        case rel =>
          have R : ExtS w l m (.slice (some ⟨b2, off2 + k, none⟩) (r - k) (cap2 - k)) ((q : Int) - (k : Int)) v3 false W4 := ⟨cur.drop k, q - k, acc ++ [rootB (cur.take k)], SL.dropK k HM.out (by omega) hcp2 hbl2 HCS2.out, by omega, by omega, by rw [List.length_drop, HM.out]; omega, by rw [List.length_append]; simpa [strV] using O4.out, (BW3.out.alloc BW3.out.size _).grown G4.out (by simp; omega) (fun k e => (OW3.out.lt k e).1), by
            have h := EQ.out
            rw [HM.out, HK.out, if_neg hqk] at h
            rw [← HACC.out, List.append_assoc]; congr 1; exact h.symm, fun x hx => HSUB.out x (List.mem_of_mem_drop hx), by have := HLN.out; rw [List.length_drop]; omega⟩
          first | exact ⟨_, _, rfl, rfl, R⟩ | ((repeat apply Exists.intro); exact ⟨⟨_, _, rfl, rfl, R⟩, rfl⟩)
        case measure => simp [vlen]; omega
    · have EQ := Lib.hid (Dig.ext_end leafB nodeB empB cur q c (by have := HM.out; omega))
      cases c with
      | true =>
        have EA : Hid (acc = extB l m true) := Lib.hid (by have h := HACC.out; rw [extB, EQ.out] at h; simpa using h)
        have RV := Lib.hid (Rev_any wr w.heap.size acc.length u6 acc HOWN.out (by omega))
        go_wp2_with fail
        refine RV.out.mono ?_
        rintro e W3 ⟨rfl, hsl, hu⟩
        have H3 := Lib.hid hsl
        have B3 := Lib.hid (HBEL.out.trans (hu.below' HBEL.out.size (by intro i hi h; have := (HOWN.out.lt _ h).1; omega)))
        clear hsl hu
        go_wp2
        go_ret2
        exact ⟨u6, rfl, by rw [← EA.out]; exact H3.out, B3.out⟩
      | false =>
        have EA : Hid (acc ++ [rootB cur] = extB l m true) := Lib.hid (by have h := HACC.out; rw [extB, EQ.out] at h; exact h)
        have HRT := Lib.hid (Root_any wr _ cur (HCUR.out.below HBEL.out) (by have := HM.out; omega) (fun x hx => HS.out x (HSUB.out x hx)) (HR.out.below HBEL.out))
        go_wp2_with fail
        refine HRT.out.mono ?_
        rintro e W3 ⟨rfl, hB3⟩
        have OW3 := Lib.hid (own_below HOWN.out hB3)
        have BW3 := Lib.hid (HBEL.out.trans (hB3.mono HBEL.out.size))
        clear hB3 HOWN HBEL
        have hz3 := BW3.out.size
        go_wp2_with (first
          | (at_builtin; refine wpList_append_own _ rfl (.tmp 52) (.tmp 55) 22 rfl w.heap.size 9 i9 _ 1 16 Tryd.underlying22 hi9 hz9 hy9 hb9 rfl (by decide) _ _ _ rfl (OW3.out.alloc _) ⟨W3.heap.size, 0, none⟩ 1 1 [.string (rootB cur)] rfl rfl (cell_one_new _ _ _) (by simp [Value.oneCell']) (by simp only [maxLen]; omega) (by omega) (by simp; omega) ?_
             intro v3 W4 hown hgr _
             have B4 := Lib.hid ((BW3.out.alloc BW3.out.size _).grown hgr (by simp; omega) (fun k e => (OW3.out.lt k e).1))
             have O4 : Hid (W4.ownsRow w.heap.size 9 1 v3 (acc.length + 1) (strV (acc ++ [rootB cur]))) := Lib.hid (by simpa [strV] using hown)
             have RV := Lib.hid (Rev_any W4 w.heap.size (acc.length + 1) v3 (acc ++ [rootB cur]) O4.out (by omega))
             clear hown hgr)
          | (go_at_call 54
             refine RV.out.mono ?_
             rintro e W5 ⟨rfl, hsl, hu⟩
             have H3 := Lib.hid hsl
             have B5 := Lib.hid (B4.out.trans (hu.below' B4.out.size (by intro i hi h; have := (O4.out.lt _ h).1; omega)))
             clear hsl hu))
        go_ret2
        exact ⟨v3, rfl, by rw [← EA.out]; exact H3.out, B5.out⟩
end Go.Proofs.YtljgphmdiflphaaDoor
