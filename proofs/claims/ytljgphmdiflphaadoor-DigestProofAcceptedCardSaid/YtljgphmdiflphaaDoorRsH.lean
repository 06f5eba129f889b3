/- The reference's SHA-256: rows of words; append keeps what a row held. -/
import Derived.Test.YtljgphmdiflphaaDoorRsB
import Derived.StillTailTactics
import Derived.Deep.RegionHeld3
namespace Go.Proofs.YtljgphmdiflphaaDoor
open Go.RowKit
set_option linter.unusedVariables false

/-- A row of words of the call's own. -/
structure OWd (w : World) (l : List Nat) (n : Nat) (v : Value) (wr : World) : Prop where
  row : wr.ownsRow w.heap.size 82 1 v n (wv l)
  below : Below w.heap.size w wr
theorem OWd.push {w wr w' : World} {l l' : List Nat} {n n' : Nat} {v v' : Value} (h : OWd w l n v wr) (o : Obj) (xs : List Nat) (hr : w'.ownsRow w.heap.size 82 1 v' n' (wv l ++ wv xs)) (hl : l' = l ++ xs) (hg : (wr.alloc o).grownBy w' v.ownBlock) : OWd w l' n' v' w' := by
  subst hl
  exact ⟨by rw [show wv (l ++ xs) = wv l ++ wv xs by simp [wv]]; exact hr, (h.below.alloc h.below.size o).grown hg (by have := h.below.size; simp; omega) (fun k e => (h.row.lt k e).1)⟩
theorem OWd.form {w wr : World} {l : List Nat} {n : Nat} {v : Value} (h : OWd w l n v wr) (hn : 0 < n) : ∃ g c, v = .slice (some ⟨g, 0, none⟩) n c ∧ n ≤ c ∧ g < wr.heap.size ∧ ∀ (j : Nat) (x : Nat), l[j]? = some x → wr.cell? ⟨g, j, none⟩ = some (.int .u32 (x : Int)) := by
  rcases h.row.2 with ⟨_, e⟩ | ⟨g, c, cur, e, hb, hg, hc, hm, _⟩
  · omega
  · subst e
    refine ⟨g, c, rfl, hc, ltOf hg, fun j x hj => ?_⟩
    have := h.row.cells (g := g) rfl j (.int .u32 (x : Int)) (by simp [wv, hj])
    have ha : (⟨g, 0, none⟩ : Addr).add j = ⟨g, j, none⟩ := by unfold Addr.add; split <;> simp_all
    rwa [ha] at this
theorem keepA {W : World} {b j : Nat} {v : Value} {o : Obj} (h : W.cell? ⟨b, j, none⟩ = some v) : (W.alloc o).drew.cell? ⟨b, j, none⟩ = some v := by
  rw [World.cell?_drew, World.cell?_alloc_past _ _ _ (World.block_lt_of_cell? W _ h)]; exact h

theorem keepA0 {W : World} {b j : Nat} {v : Value} {o : Obj} (h : W.cell? ⟨b, j, none⟩ = some v) : (W.alloc o).cell? ⟨b, j, none⟩ = some v := by
  rw [World.cell?_alloc_past _ _ _ (World.block_lt_of_cell? W _ h)]; exact h
theorem keepG {W W2 : World} {row : Option Nat} {b j : Nat} {v : Value} (hg : W.grownBy W2 row) (h : W.cell? ⟨b, j, none⟩ = some v) (hne : ∀ k, row = some k → k ≠ b) : W2.cell? ⟨b, j, none⟩ = some v := by
  rw [World.cell?_of_block (hg.block b (World.block_lt_of_cell? W _ h) (fun e => hne b e.symm rfl))]; exact h
theorem news_one' {w : World} {x y : Value} {B : Nat} {t : TypeId} {fr : Nat × Nat} (h : x = y) (hb : w.heap[B]? = some (.cells #[x] t fr)) : ∀ j u, [y][j]? = some u → w.cell? ((⟨B, 0, none⟩ : Addr).add j) = some u := by
  subst h; exact World.news_of_block hb

theorem own_base {w : World} {b b' s n : Nat} {e : TypeId} {v : Value} {xs : List Value} (h : w.ownsRow b e s v n xs) (hb : b' ≤ b) : w.ownsRow b' e s v n xs :=
  ⟨h.1, h.2.imp id (fun ⟨g, c, cu, e1, e2, r⟩ => ⟨g, c, cu, e1, Nat.le_trans hb e2, r⟩)⟩
/-- append to a row of the call's own: what it held stays where it is, too. -/
theorem run_append_keep {P : Program} (w : World) (base : Nat) (t ty e : TypeId) (i : TypeInfo) (z : Value) (bytes : Nat) (ht : P.underlying t = some (.slice e)) (hi : P.info? e = some i) (hz : i.zero = some z)
    (hsize : i.size = 1) (hby : i.bytes = bytes) (hzs : z.cells.size = 1) (g n cap : Nat) (xs : List Value) (hown : w.ownsRow base e 1 (.slice (some ⟨g, 0, none⟩) n cap) n xs)
    (a : Addr) (m c : Nat) (news : List Value) (hl : news.length = m * 1) (hnews : ∀ j u, news[j]? = some u → w.cell? (a.add j) = some u) (h1 : ∀ u ∈ news, u.oneCell' = true)
    (h63 : n + m ≤ maxLen) (hbytes : (n + m) * bytes ≤ 140737488355328) (hbase : base ≤ w.heap.size) :
    ∃ v' w', (Builtin.append_ #[t, t] ty #[.slice (some ⟨g, 0, none⟩) n cap, .slice (some a) m c]).run P w = .ok v' w' ∧ w'.ownsRow base e 1 v' (n + m) (xs ++ news) ∧ w.grownBy w' (some g) ∧ ∀ j, j < n → w'.cell? ⟨g, j, none⟩ = w.cell? ⟨g, j, none⟩ := by
  obtain ⟨v', w', hr, ho, hg, _⟩ := run_append_own (P := P) w base t ty e i z 1 bytes ht hi hz hsize hby hzs (by decide) _ n xs hown a m c news hl hnews h1 h63 hbytes hbase
  refine ⟨v', w', hr, ho, hg, fun j hj => ?_⟩
  rcases hown.2 with ⟨e, _⟩ | ⟨g', c', cur, e, hb, hgk, hnc, hcm, hsz, htk⟩
  · cases e
  · injection e with e1 e2 e3
    injection e1 with e1
    injection e1 with e1
    subst e1 e3
    by_cases hroom : n + m ≤ cap
    · have hrun := run_append_room_cells (P := P) w t ty _ i ht hi g 0 n cap a m c news (by rw [hsize]; exact hl) hnews h1 hroom
        (fun j hj => by rw [cellOf hgk, Array.getElem?_eq_getElem (by rw [hsz, hsize]; omega)]; rfl) (fun j hj => frozenOf hgk _)
      rw [hr] at hrun
      injection hrun with e1 e2
      rw [e2]
      exact World.cell?_setCells_out g news _ w ⟨g, j, none⟩ (fun _ _ => .inl (by rw [hsize]; simp; omega))
    · obtain ⟨v2, w2, hr2, _, hg2⟩ := run_append_arg_grows (P := P) w t ty _ i z 1 bytes ht hi hz hsize hby hzs (by decide) ⟨g, 0, none⟩ n cap xs hown.1 (hown.cells (g := g) rfl) a m c news hl hnews (by omega) h63 hbytes
      rw [hr] at hr2
      injection hr2 with e1 e2
      rw [e2]
      exact World.cell?_of_block (hg2.block g (ltOf hgk) (by simp))
theorem step_append_keep {P : Program} {w : World} {ops : Array Oper} {o : Oper} {a : Act} {K : Act → World → Prop} {Q : Exit → Act → World → Prop} {E : Prop} (hgd : o.guard = none) (s x : Operand) (t : TypeId)
    (ho : o.op = .call { callee := .builtin .append, args := #[s, x], argTypes := #[t, t] }) (base : Nat) (e : TypeId) (i : TypeInfo) (z : Value) (bytes : Nat) (ht : P.underlying t = some (.slice e)) (hi : P.info? e = some i) (hz : i.zero = some z)
    (hsize : i.size = 1) (hby : i.bytes = bytes) (hzs : z.cells.size = 1) (g n cap : Nat) (xs : List Value) (hs : a.eval s = .slice (some ⟨g, 0, none⟩) n cap) (hown : w.ownsRow base e 1 (.slice (some ⟨g, 0, none⟩) n cap) n xs)
    (ad : Addr) (m c : Nat) (news : List Value) (hx : a.eval x = .slice (some ad) m c) (hl : news.length = m * 1) (hnews : ∀ j u, news[j]? = some u → w.cell? (ad.add j) = some u) (h1 : ∀ u ∈ news, u.oneCell' = true)
    (h63 : n + m ≤ maxLen) (hbytes : (n + m) * bytes ≤ 140737488355328) (hbase : base ≤ w.heap.size)
    (h : ∀ v' w', w'.ownsRow base e 1 v' (n + m) (xs ++ news) → w.grownBy w' (some g) → (∀ j, j < n → w'.cell? ⟨g, j, none⟩ = w.cell? ⟨g, j, none⟩) → K (a.put o.dst v') w') :
    if Region.wanted o (yielded ops a.tmps) = true then Oper.wp P o a w K Q else E := by
  have hw : Region.wanted o (yielded ops a.tmps) = true := by simp [Region.wanted, hgd]
  rw [if_pos hw]
  obtain ⟨v', w', hr, h2, h3, h4⟩ := run_append_keep (P := P) w base t o.type e i z bytes ht hi hz hsize hby hzs g n cap xs hown ad m c news hl hnews h1 h63 hbytes hbase
  unfold Oper.wp execOp
  simp only [ho, resolve, invoke, builtin, Sem.run_bind, Sem.run_pure, Result.andThen_ok, List.map_toArray, List.map_cons, List.map_nil, hs, hx, hr]
  exact h v' w' h2 h3 h4
theorem grown_of_drew {a b : World} {r : Option Nat} (h : a.drew.grownBy b r) : a.grownBy b r := ⟨h.os, h.tape, h.output, h.size, h.block⟩

theorem sig8 (x : Nat) (hx : x < 4294967296) (a b : Nat) : bits .xor .u32 (bits .xor .u32 ((Sha.rotr x a : Nat) : Int) ((Sha.rotr x b : Nat) : Int)) ((x : Int) / 8) = ((Sha.mix x [a, b] ^^^ x / 8 : Nat) : Int) := by
  rw [show (x : Int) / 8 = ((x / 8 : Nat) : Int) by simp, u32_xor_nat _ _ (Sha.rotr_lt _ _ hx) (Sha.rotr_lt _ _ hx), u32_xor_nat _ _ (Nat.xor_lt_two_pow (n := 32) (Sha.rotr_lt _ _ hx) (Sha.rotr_lt _ _ hx)) (by omega)]
  simp [Sha.mix]
theorem sig1024 (x : Nat) (hx : x < 4294967296) (a b : Nat) : bits .xor .u32 (bits .xor .u32 ((Sha.rotr x a : Nat) : Int) ((Sha.rotr x b : Nat) : Int)) ((x : Int) / 1024) = ((Sha.mix x [a, b] ^^^ x / 1024 : Nat) : Int) := by
  rw [show (x : Int) / 1024 = ((x / 1024 : Nat) : Int) by simp, u32_xor_nat _ _ (Sha.rotr_lt _ _ hx) (Sha.rotr_lt _ _ hx), u32_xor_nat _ _ (Nat.xor_lt_two_pow (n := 32) (Sha.rotr_lt _ _ hx) (Sha.rotr_lt _ _ hx)) (by omega)]
  simp [Sha.mix]
theorem mix3_int (x : Nat) (hx : x < 4294967296) (a b c : Nat) : bits .xor .u32 (bits .xor .u32 ((Sha.rotr x a : Nat) : Int) ((Sha.rotr x b : Nat) : Int)) ((Sha.rotr x c : Nat) : Int) = ((Sha.mix x [a, b, c] : Nat) : Int) := by
  rw [u32_xor_nat _ _ (Sha.rotr_lt _ _ hx) (Sha.rotr_lt _ _ hx), u32_xor_nat _ _ (Nat.xor_lt_two_pow (n := 32) (Sha.rotr_lt _ _ hx) (Sha.rotr_lt _ _ hx)) (Sha.rotr_lt _ _ hx)]
  simp [Sha.mix]
theorem nextv_int (x16 x15 x7 x2 : Nat) : IntKind.u32.wrap (IntKind.u32.wrap (IntKind.u32.wrap ((x16 : Int) + ((Sha.mix x15 [7, 18] ^^^ x15 / 8 : Nat) : Int)) + (x7 : Int)) + ((Sha.mix x2 [17, 19] ^^^ x2 / 1024 : Nat) : Int)) = ((Sha.nextv x16 x15 x7 x2 : Nat) : Int) := by
  unfold Sha.nextv
  simp only [IntKind.wrap_u32']
  omega

end Go.Proofs.YtljgphmdiflphaaDoor
