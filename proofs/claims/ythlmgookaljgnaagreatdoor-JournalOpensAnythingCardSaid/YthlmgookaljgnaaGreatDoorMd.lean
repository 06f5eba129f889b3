/- Proof.
  Extension.
  Verify.
  Binding, the plain law: two accepted proofs of different entries for one place hold two strings with one Sum.
  The reference's SHA-256: Sum, Leaf, Node, Chain.
  wire.PutInt of a length, PutString.
  wire.PutInt of a length, PutString.
  wire.Int, wire.String: plain and walk.
  VerifyExtension.
  VerifyExtension: on the way.
  The small functions of the laws.
  few.
  Appending rows of strings; the laws' own left.
  Appending a row of strings that can be read onto one of the call's own, in whatever order a region draws.
  The journal's tape: its records, its head, its size; add.
  errors.Is of an error with itself. (Lines of the worked proof SentryIs, turned to this program.)
-/
import Derived.Test.YthlmgookaljgnaaGreatDoorMc
import Derived.Test.YthlmgookaljgnaaGreatDoorMb
import Derived.Test.YthlmgookaljgnaaGreatDoorMa
import Derived.Test.YthlmgookaljgnaaGreatDoorProg
import Derived.Lib.RowBridge
import Derived.Sort.LoopGhostIn
import Derived.Laws.DeepNot64
import Derived.Laws.AppendOwnNone
import Derived.Deep.RegionHeld3
import Derived.Deep.AppendLies
import Derived.LaidEql
import Derived.Stop.Asserts
import Derived.RowKitTokens
namespace Go.Proofs.YthlmgookaljgnaaGreatDoor
open Go.RowKit
set_option linter.unusedVariables false

def prfB (l : List ByteArray) (i : Nat) : List ByteArray := Dig.prf leafB nodeB empB l i
theorem prfB_length : ∀ (n : Nat) (l : List ByteArray) (i : Nat), l.length = n → (prfB l i).length ≤ l.length := by
  intro n
  induction n using Nat.strongRecOn with
  | ind n ih =>
    intro l i hn
    unfold prfB
    by_cases h : l.length ≤ 1
    · rw [Dig.prf_one _ _ _ _ _ h]; simp
    · have h3 := Dig.lft_lt (n := l.length) (by omega)
      have h4 := Dig.lft_pos l.length
      rw [Dig.prf_two _ _ _ _ _ (by omega)]
      split
      · have := ih (l.take (Dig.lft l.length)).length (by rw [List.length_take]; omega) (l.take (Dig.lft l.length)) i rfl
        rw [List.length_take] at this
        simp only [List.length_cons]; unfold prfB at this; omega
      · have := ih (l.drop (Dig.lft l.length)).length (by rw [List.length_drop]; omega) (l.drop (Dig.lft l.length)) (i - Dig.lft l.length) rfl
        rw [List.length_drop] at this
        simp only [List.length_cons]; unfold prfB at this; omega

theorem SL.mk' {w : World} {b off n cap : Nat} {l : List ByteArray} (hn : l.length = n) (hc : n ≤ cap) (hb : b < w.heap.size) (hcs : ∀ j x, l[j]? = some x → w.cell? ⟨b, off + j, none⟩ = some (.string x)) : SL w (.slice (some ⟨b, off, none⟩) n cap) l :=
  ⟨_, cap, by rw [hn], by omega, fun _ => ⟨b, off, rfl, hb, hcs⟩⟩
theorem SL.out {w : World} {sv : Value} {l : List ByteArray} (h : SL w sv l) (h0 : 0 < l.length) : ∃ b off cap, sv = .slice (some ⟨b, off, none⟩) l.length cap ∧ l.length ≤ cap ∧ b < w.heap.size ∧ ∀ j x, l[j]? = some x → w.cell? ⟨b, off + j, none⟩ = some (.string x) := by
  obtain ⟨a, cap, e, h1, h2⟩ := h.form
  obtain ⟨b, off, ea, hb, hc⟩ := h2 h0
  subst ea
  exact ⟨b, off, cap, e, h1, hb, hc⟩
theorem SL.takeK {w : World} {b off cap n : Nat} {l : List ByteArray} (k : Nat) (hn : l.length = n) (hk : k ≤ n) (hc : n ≤ cap) (hb : b < w.heap.size) (hcs : ∀ j x, l[j]? = some x → w.cell? ⟨b, off + j, none⟩ = some (.string x)) : SL w (.slice (some ⟨b, off, none⟩) k cap) (l.take k) :=
  SL.mk' (by rw [List.length_take]; omega) (by omega) hb fun j x hj => by
    by_cases h : j < k
    · rw [List.getElem?_take, if_pos h] at hj; exact hcs j x hj
    · rw [List.getElem?_take, if_neg h] at hj; cases hj
theorem SL.dropK {w : World} {b off cap n : Nat} {l : List ByteArray} (k : Nat) (hn : l.length = n) (hk : k ≤ n) (hc : n ≤ cap) (hb : b < w.heap.size) (hcs : ∀ j x, l[j]? = some x → w.cell? ⟨b, off + j, none⟩ = some (.string x)) : SL w (.slice (some ⟨b, off + k, none⟩) (n - k) (cap - k)) (l.drop k) :=
  SL.mk' (by rw [List.length_drop]; omega) (by omega) hb fun j x hj => by
    rw [List.getElem?_drop] at hj
    rw [Nat.add_assoc]; exact hcs (k + j) x hj

theorem upd_setCells {S : Nat → Prop} {a : World} (b : Nat) (hb : S b ∨ a.heap.size ≤ b) : ∀ (vs : List Value) (o : Nat) (w : World), Upd S a w → Upd S a (w.setCells b o vs)
  | [], _, _, h => h
  | v :: r, o, w, h => upd_setCells b hb r (o + 1) _ (h.setCell _ _ hb)
/-- On the way down: what is left of the list, the place in it, and the proof so far. -/
def ProofS (w : World) (l : List ByteArray) (i : Nat) (lv : Value) (j : Int) (ov : Value) (wr : World) : Prop :=
  ∃ (cur : List ByteArray) (q : Nat) (acc : List ByteArray), SL w lv cur ∧ j = (q : Int) ∧ q < cur.length ∧ wr.ownsRow w.heap.size 9 1 ov acc.length (strV acc) ∧ Below w.heap.size w wr ∧ acc ++ prfB cur q = prfB l i ∧ (∀ x ∈ cur, x ∈ l) ∧ cur.length ≤ l.length

end Go.Proofs.YthlmgookaljgnaaGreatDoor
namespace Go.Proofs.YthlmgookaljgnaaGreatDoor
open Go.RowKit
set_option linter.unusedVariables false

def extB (l : List ByteArray) (m : Nat) (w : Bool) : List ByteArray := Dig.ext leafB nodeB empB l m w
theorem extB_length : ∀ (n : Nat) (l : List ByteArray) (m : Nat) (w : Bool), 1 ≤ m → l.length = n → (extB l m w).length ≤ l.length + 1 := by
  intro n
  induction n using Nat.strongRecOn with
  | ind n ih =>
    intro l m w hm hn
    unfold extB
    by_cases h : l.length ≤ m
    · rw [Dig.ext_end _ _ _ _ _ _ h]; split <;> simp
    · have h3 := Dig.lft_lt (n := l.length) (by omega)
      have h4 := Dig.lft_pos l.length
      rw [Dig.ext_step _ _ _ _ _ _ hm (by omega)]
      split
      · have := ih (l.take (Dig.lft l.length)).length (by rw [List.length_take]; omega) (l.take (Dig.lft l.length)) m w hm rfl
        rw [List.length_take] at this
        simp only [List.length_cons]; unfold extB at this; omega
      · have := ih (l.drop (Dig.lft l.length)).length (by rw [List.length_drop]; omega) (l.drop (Dig.lft l.length)) (m - Dig.lft l.length) false (by omega) rfl
        rw [List.length_drop] at this
        simp only [List.length_cons]; unfold extB at this; omega

/-- On the way down. -/
def ExtS (w : World) (l : List ByteArray) (m : Nat) (lv : Value) (j : Int) (ov : Value) (b : Bool) (wr : World) : Prop :=
  ∃ (cur : List ByteArray) (q : Nat) (acc : List ByteArray), SL w lv cur ∧ j = (q : Int) ∧ 1 ≤ q ∧ q ≤ cur.length ∧ wr.ownsRow w.heap.size 9 1 ov acc.length (strV acc) ∧ Below w.heap.size w wr ∧ acc ++ extB cur q b = extB l m true ∧ (∀ x ∈ cur, x ∈ l) ∧ cur.length ≤ l.length

end Go.Proofs.YthlmgookaljgnaaGreatDoor
namespace Go.Proofs.YthlmgookaljgnaaGreatDoor
open Go.RowKit Go.Shelf
set_option linter.unusedVariables false
attribute [local go_sem] Oper.semAt_some

def wayB (n i : Nat) (t : List ByteArray) : Option (List (ByteArray × Bool) × List ByteArray) := Dig.way n i t
/-- what a way that was walked to its end answers -/
def endB (root v : ByteArray) : Option (List (ByteArray × Bool) × List ByteArray) → Bool
  | none => false
  | some r => r.2.isEmpty && (Dig.value nodeB v r.1 == root)
def verB (root : ByteArray) (n i : Int) (s : ByteArray) (P : List ByteArray) : Bool :=
  decide (0 ≤ i) && decide (i < n) && allD P && endB root (leafB s) (wayB n.toNat i.toNat P.reverse)

/-- the sides from the end of a way on -/
def joinF (L : List (ByteArray × Bool)) (pre : List (Fin L.length)) (r : ByteArray) : ByteArray := pre.foldl (fun o x => Dig.join nodeB L[x] o) r
theorem joinF_snoc (L : List (ByteArray × Bool)) (pre : List (Fin L.length)) (x : Fin L.length) (r : ByteArray) : joinF L (pre ++ [x]) r = Dig.join nodeB L[x] (joinF L pre r) := by simp [joinF]
theorem join_size (s : ByteArray × Bool) (o : ByteArray) : (Dig.join nodeB s o).size = 32 := by unfold Dig.join; split <;> exact sumB_size _
theorem joinF_size (L : List (ByteArray × Bool)) (pre : List (Fin L.length)) (r : ByteArray) (hr : r.size = 32) : (joinF L pre r).size = 32 := by
  rcases snoc_cases pre with rfl | ⟨p, x, rfl⟩
  · exact hr
  · rw [joinF_snoc]; exact join_size _ _
theorem map_finRangeS (L : List (ByteArray × Bool)) : (List.finRange L.length).map (fun x => L[x]) = L := by
  apply List.ext_getElem
  · simp
  · intro i h1 h2; simp
theorem joinF_all (L : List (ByteArray × Bool)) (r : ByteArray) : joinF L (List.finRange L.length).reverse r = Dig.value nodeB r L := by
  unfold joinF Dig.value
  rw [List.foldl_reverse]
  have := List.foldr_map (f := fun x : Fin L.length => L[x]) (g := Dig.join nodeB) (l := List.finRange L.length) (init := r)
  rw [map_finRangeS] at this
  exact this.symm

end Go.Proofs.YthlmgookaljgnaaGreatDoor
namespace Go.Proofs.YthlmgookaljgnaaGreatDoor
set_option linter.unusedVariables false

def pre1 (m : UInt8) (a : ByteArray) : ByteArray := (⟨#[m]⟩ : ByteArray) ++ a
def pre2 (m : UInt8) (a b : ByteArray) : ByteArray := (⟨#[m]⟩ : ByteArray) ++ a ++ b
theorem catB_one (m : UInt8) (a : ByteArray) : catB m [a] = pre1 m a := by
  apply ByteArray.ext
  apply Array.toList_inj.1
  simp [catB, pre1, ByteArray.data_append]
theorem catB_two (m : UInt8) (a b : ByteArray) : catB m [a, b] = pre2 m a b := by
  apply ByteArray.ext
  apply Array.toList_inj.1
  simp [catB, pre2, ByteArray.data_append]
theorem pre1_inj {m : UInt8} {a b : ByteArray} (h : pre1 m a = pre1 m b) : a = b := by
  have h1 := congrArg (fun x : ByteArray => x.data.toList) h
  simp [pre1, ByteArray.data_append] at h1
  exact ByteArray.ext (by simpa using h1)
theorem pre2_inj {m : UInt8} {a b c d : ByteArray} (h : pre2 m a b = pre2 m c d) (hs : a.size = c.size) : a = c ∧ b = d := by
  have h1 := congrArg (fun x : ByteArray => x.data.toList) h
  simp [pre2, ByteArray.data_append] at h1
  have h2 := List.append_inj h1 (by simpa using hs)
  exact ⟨ByteArray.ext (by simpa using h2.1), ByteArray.ext (by simpa using h2.2)⟩

def wayP : Nat → Nat → ByteArray → List ByteArray → List ByteArray × ByteArray
  | n, i, s, [] => ([pre1 0 s], leafB s)
  | n, i, s, x :: t => if n ≤ 1 then ([pre1 0 s], leafB s) else
    if i < Dig.lft n then (pre2 1 (wayP (Dig.lft n) i s t).2 x :: (wayP (Dig.lft n) i s t).1, nodeB (wayP (Dig.lft n) i s t).2 x)
    else (pre2 1 x (wayP (n - Dig.lft n) (i - Dig.lft n) s t).2 :: (wayP (n - Dig.lft n) (i - Dig.lft n) s t).1, nodeB x (wayP (n - Dig.lft n) (i - Dig.lft n) s t).2)
theorem wayP_size : ∀ (t : List ByteArray) (n i : Nat) (s : ByteArray), (wayP n i s t).2.size = 32 := by
  intro t
  cases t with
  | nil => intro n i s; rw [wayP]; exact sumB_size _
  | cons x t =>
    intro n i s
    rw [wayP]
    split
    · exact sumB_size _
    · split <;> exact sumB_size _
theorem wayP_length : ∀ (t : List ByteArray) (n i : Nat) (s : ByteArray), (wayP n i s t).1.length ≤ t.length + 1 := by
  intro t
  induction t with
  | nil => intro n i s; rw [wayP]; simp
  | cons x t ih =>
    intro n i s
    rw [wayP]
    split
    · simp
    · split
      · have := ih (Dig.lft n) i s; simp only [List.length_cons]; omega
      · have := ih (n - Dig.lft n) (i - Dig.lft n) s; simp only [List.length_cons]; omega
theorem wayP_value : ∀ (t : List ByteArray) (n i : Nat) (s : ByteArray) (ws : List (ByteArray × Bool)) (r : List ByteArray), wayB n i t = some (ws, r) → (wayP n i s t).2 = Dig.value nodeB (leafB s) ws := by
  intro t
  induction t with
  | nil =>
    intro n i s ws r h
    unfold wayB at h
    by_cases h2 : 2 ≤ n
    · rw [Dig.way_nil _ _ h2] at h; cases h
    · rw [Dig.way_one _ _ _ (by omega)] at h
      cases h; rw [wayP]; rfl
  | cons x t ih =>
    intro n i s ws r h
    unfold wayB at h ih
    by_cases h2 : 2 ≤ n
    · rw [Dig.way_cons _ _ _ _ h2] at h
      rw [wayP, if_neg (by omega)]
      split at h
      · rename_i hk
        rw [if_pos hk]
        obtain ⟨⟨ws', r'⟩, e1, e2⟩ := Option.map_eq_some_iff.1 h
        cases e2
        rw [Dig.value_cons, ← ih _ _ s _ _ e1]; rfl
      · rename_i hk
        rw [if_neg hk]
        obtain ⟨⟨ws', r'⟩, e1, e2⟩ := Option.map_eq_some_iff.1 h
        cases e2
        rw [Dig.value_cons, ← ih _ _ s _ _ e1]; rfl
    · rw [Dig.way_one _ _ _ (by omega)] at h
      cases h
      rw [wayP, if_pos (by omega)]; rfl

def collB : List ByteArray → List ByteArray → Bool
  | a :: xs, b :: ys => (!(a == b) && (sumB a == sumB b)) || collB xs ys
  | _, _ => false
theorem beq_iffB {a b : ByteArray} : (a == b) = true ↔ a = b := by
  rw [beq_toListBytes, beq_iff_eq]
  exact ⟨fun h => ByteArray.ext (by rw [ByteArray.toList_eq, ByteArray.toList_eq] at h; exact Array.toList_inj.1 h), fun h => by rw [h]⟩
theorem neB {a b : ByteArray} (h : a ≠ b) : (a == b) = false := by
  cases e : (a == b) with
  | false => rfl
  | true => exact absurd (beq_iffB.1 e) h
theorem sameB (a : ByteArray) : (a == a) = true := beq_iffB.2 rfl
theorem collB_head {a b : ByteArray} {xs ys : List ByteArray} (h : a ≠ b) (hs : sumB a = sumB b) : collB (a :: xs) (b :: ys) = true := by
  rw [collB, neB h, hs, sameB]; rfl
theorem collB_tail {a b : ByteArray} {xs ys : List ByteArray} (h : collB xs ys = true) : collB (a :: xs) (b :: ys) = true := by
  rw [collB, h]; simp

theorem wayP_coll : ∀ (t t' : List ByteArray) (n i : Nat) (s s' : ByteArray), (∀ x ∈ t, x.size = 32) → (∀ x ∈ t', x.size = 32) → (wayB n i t).isSome → (wayB n i t').isSome → (wayP n i s t).2 = (wayP n i s' t').2 → s ≠ s' → collB (wayP n i s t).1 (wayP n i s' t').1 = true := by
  intro t
  induction t with
  | nil =>
    intro t' n i s s' _ _ h1 h2 hv hs
    have hn : n ≤ 1 := by
      by_cases h : 2 ≤ n
      · unfold wayB at h1; rw [Dig.way_nil _ _ h] at h1; cases h1
      · omega
    have e1 : wayP n i s [] = ([pre1 0 s], leafB s) := rfl
    have e2 : wayP n i s' t' = ([pre1 0 s'], leafB s') := by
      cases t' with
      | nil => rfl
      | cons x t' => rw [wayP, if_pos hn]
    rw [e1, e2] at hv ⊢
    exact collB_head (fun h => hs (pre1_inj h)) (by simpa [leafB, catB_one] using hv)
  | cons x t ih =>
    intro t' n i s s' hx hx' h1 h2 hv hs
    by_cases hn : n ≤ 1
    · have e1 : wayP n i s (x :: t) = ([pre1 0 s], leafB s) := by rw [wayP, if_pos hn]
      have e2 : wayP n i s' t' = ([pre1 0 s'], leafB s') := by
        cases t' with
        | nil => rfl
        | cons x t' => rw [wayP, if_pos hn]
      rw [e1, e2] at hv ⊢
      exact collB_head (fun h => hs (pre1_inj h)) (by simpa [leafB, catB_one] using hv)
    · cases t' with
      | nil => unfold wayB at h2; rw [Dig.way_nil _ _ (by omega)] at h2; cases h2
      | cons x' t' =>
        unfold wayB at h1 h2
        rw [Dig.way_cons _ _ _ _ (by omega)] at h1 h2
        rw [wayP, if_neg hn] at hv ⊢
        rw [wayP, if_neg hn] at hv ⊢
        have z1 := hx x (by simp)
        have z2 := hx' x' (by simp)
        by_cases hk : i < Dig.lft n
        · rw [if_pos hk] at h1 h2 hv ⊢
          rw [if_pos hk] at hv ⊢
          have i1 : (wayB (Dig.lft n) i t).isSome := by simpa [wayB] using h1
          have i2 : (wayB (Dig.lft n) i t').isSome := by simpa [wayB] using h2
          by_cases he : pre2 1 (wayP (Dig.lft n) i s t).2 x = pre2 1 (wayP (Dig.lft n) i s' t').2 x'
          · obtain ⟨e1, e2⟩ := pre2_inj he (by rw [wayP_size, wayP_size])
            exact collB_tail (ih t' _ _ s s' (fun y hy => hx y (by simp [hy])) (fun y hy => hx' y (by simp [hy])) i1 i2 e1 hs)
          · exact collB_head he (by simpa [nodeB, catB_two] using hv)
        · rw [if_neg hk] at h1 h2 hv ⊢
          rw [if_neg hk] at hv ⊢
          have i1 : (wayB (n - Dig.lft n) (i - Dig.lft n) t).isSome := by simpa [wayB] using h1
          have i2 : (wayB (n - Dig.lft n) (i - Dig.lft n) t').isSome := by simpa [wayB] using h2
          by_cases he : pre2 1 x (wayP (n - Dig.lft n) (i - Dig.lft n) s t).2 = pre2 1 x' (wayP (n - Dig.lft n) (i - Dig.lft n) s' t').2
          · obtain ⟨e1, e2⟩ := pre2_inj he (by rw [z1, z2])
            exact collB_tail (ih t' _ _ s s' (fun y hy => hx y (by simp [hy])) (fun y hy => hx' y (by simp [hy])) i1 i2 e2 hs)
          · exact collB_head he (by simpa [nodeB, catB_two] using hv)

theorem verB_coll {root : ByteArray} {n i : Int} {s s' : ByteArray} {P Q : List ByteArray} (h1 : verB root n i s P = true) (h2 : verB root n i s' Q = true) (hs : s ≠ s') :
    collB (wayP n.toNat i.toNat s P.reverse).1 (wayP n.toNat i.toNat s' Q.reverse).1 = true := by
  unfold verB at h1 h2
  simp only [Bool.and_eq_true] at h1 h2
  have a1 := (allD_iff _).1 h1.1.2
  have a2 := (allD_iff _).1 h2.1.2
  cases hw : wayB n.toNat i.toNat P.reverse with
  | none => rw [hw] at h1; cases h1.2
  | some r =>
    cases hw' : wayB n.toNat i.toNat Q.reverse with
    | none => rw [hw'] at h2; cases h2.2
    | some r' =>
      obtain ⟨ws, r⟩ := r
      obtain ⟨ws', r'⟩ := r'
      rw [hw] at h1; rw [hw'] at h2
      have v1 := h1.2; have v2 := h2.2
      simp only [endB, Bool.and_eq_true] at v1 v2
      refine wayP_coll _ _ _ _ _ _ (fun x hx => a1 x (List.mem_reverse.1 hx)) (fun x hx => a2 x (List.mem_reverse.1 hx)) (by rw [hw]; rfl) (by rw [hw']; rfl) ?_ hs
      rw [wayP_value _ _ _ _ _ _ hw, wayP_value _ _ _ _ _ _ hw', beq_iffB.1 v1.2, beq_iffB.1 v2.2]
end Go.Proofs.YthlmgookaljgnaaGreatDoor
namespace Go.Proofs.YthlmgookaljgnaaGreatDoor
open Go.RowKit
set_option linter.unusedVariables false

theorem NL.blk {w wr : World} {n : Nat} {v : Value} {l : List Nat} (h : OWd w l n v wr) (hl : l.length = n) (h0 : 0 < n) : NL wr v l := NL.own h.row hl h0
theorem OB.cells {w wr : World} {l : List Nat} {n : Nat} {v : Value} (h : OB w l n v wr) (hl : l.length = n) (h0 : 0 < n) : ∃ g c, v = .slice (some ⟨g, 0, none⟩) n c ∧ n ≤ c ∧ g < wr.heap.size ∧ ∀ j, j < n → wr.cell? ⟨g, j, none⟩ = some (.int .u8 (l.getD j 0 : Nat)) := by
  rcases h.row.2 with ⟨_, e⟩ | ⟨g, c, cur, e, hb, hg, hc, hm, _⟩
  · omega
  · subst e
    refine ⟨g, c, rfl, hc, ltOf hg, fun j hj => ?_⟩
    have := h.row.cells (g := g) rfl j (.int .u8 (l.getD j 0 : Nat)) (by simp [nv, List.getD_eq_getElem?_getD, List.getElem?_eq_getElem (show j < l.length by omega)])
    have ha : (⟨g, 0, none⟩ : Addr).add j = ⟨g, j, none⟩ := by unfold Addr.add; split <;> simp_all
    rwa [ha] at this
theorem OB.conv {w wr : World} {F : List Nat} {n : Nat} {v : Value} (h : OB w F n v wr) (hl : F.length = n) (h0 : 0 < n) (hF : Sha.bytes F) :
    (convert 39 9 v).run Tryz.prog wr = .ok (.string ⟨(F.map UInt8.ofNat).toArray⟩) wr := by
  obtain ⟨g, c, rfl, _, _, hc⟩ := h.cells hl h0
  have hr := run_convert_bytes_arg (P := Tryz.prog) wr 39 5 Tryz.underlying39 Tryz.underlying5 g 0 n c (F.map fun (x : Nat) => (x : Int)) (by simpa using hl) (fun i hi => by
    rw [Nat.zero_add, hc i hi]
    simp [List.getD_eq_getElem?_getD, List.getElem?_eq_getElem (show i < F.length by omega)]) 9 Tryz.underlying9
  rw [hr]
  simp [strOfNums, Function.comp_def]
theorem be4_int (x : Nat) (hx : x < 4294967296) : [Value.int .u8 ((x : Int) / 16777216 % 256), .int .u8 ((x : Int) / 65536 % 256), .int .u8 ((x : Int) / 256 % 256), .int .u8 ((x : Int) % 256)] = nv (Sha.be4 x) := by
  simp [nv, Sha.be4]
theorem flat_take (H : List Nat) (k : Nat) (h : k < H.length) : (H.take (k + 1)).flatMap Sha.be4 = (H.take k).flatMap Sha.be4 ++ Sha.be4 H[k] := by
  rw [List.take_succ_eq_append_getElem h, List.flatMap_append, List.flatMap_singleton]
theorem news_many {w : World} {B : Nat} {cs : Array Value} {xs : List Value} {t : TypeId} {fr : Nat × Nat} (hb : w.heap[B]? = some (.cells cs t fr)) (h : cs.toList = xs) : ∀ j u, xs[j]? = some u → w.cell? ((⟨B, 0, none⟩ : Addr).add j) = some u := by
  subst h; exact World.news_of_block hb

set_option maxRecDepth 100000 in
set_option maxHeartbeats 8000000 in
theorem RSum_any (s : ByteArray) (hs : s.size ≤ 1000000) (w : World) :
    Calls Tryz.prog 81 #[.string s] w fun e w' => e = .returned (.string (sumB s)) ∧ Below w.heap.size w w' := by
  obtain ⟨i0, hi, hz0, hz1, hz2⟩ := info_parts Tryz.infoByte'
  have HN := Lib.hid (nats_len s)
  have HNB := Lib.hid (Sha.pad_bytes _ (Sha.nats_bytes s.data.toList))
  obtain ⟨W0, hW0⟩ : ∃ W0, w.alloc (.cells (wv Sha.H0).toArray 156) = W0 := ⟨_, rfl⟩
  have N0 : NL W0 (.slice (some ⟨w.heap.size, 0, none⟩) 8 8) Sha.H0 := by rw [← hW0]; exact NL.lit w Sha.H0 156
  have B0 : Below w.heap.size w W0 := by rw [← hW0]; exact (Below.refl _ w).alloc (Nat.le_refl _) _
  have HN0 := Lib.hid N0
  have HB0 := Lib.hid B0
  have HW0 := Lib.hid hW0
  have EX := Lib.hid (extended_any s hs W0)
  have HS : Hid (∀ h, h = Sha.run ((s.size + 72) / 64) Sha.H0 (Sha.pad (Sha.nats s.data.toList)) → (⟨((h.flatMap Sha.be4).map UInt8.ofNat).toArray⟩ : ByteArray) = sumB s) := Lib.hid (fun h e => by
    rw [e]; unfold sumB Sha.sum Sha.sumN; rw [HN.out])
  clear N0 B0 hW0
  go_enter Tryz.func81, Tryz.ntmps81
  go_wp2_with fail
  generalize hWx : World.alloc w _ = Wx
  obtain rfl : W0 = Wx := HW0.out.symm.trans hWx
  clear hWx
  refine EX.out.mono ?_
  rintro e W1 ⟨bv, rfl, hO⟩
  obtain ⟨N, hN⟩ : ∃ N, Sha.pad (Sha.nats s.data.toList) = N := ⟨_, rfl⟩
  have hNl : N.length = 64 * ((s.size + 72) / 64) := by rw [← hN, Sha.pad_length, HN.out]; omega
  rw [hN] at hO HS HNB
  obtain ⟨m, hm⟩ : ∃ m, (s.size + 72) / 64 = m := ⟨_, rfl⟩
  rw [hm] at hNl HS
  have hm1 : 1 ≤ m := by omega
  have hmb : m ≤ 1000000 := by omega
  obtain ⟨gb, cb, rfl, hcb, hgb, hcs⟩ := hO.cells rfl (by omega)
  have HB1 := Lib.hid (HB0.out.trans (hO.below.mono HB0.out.size))
  have HN1 := Lib.hid (HN0.out.below hO.below)
  have HNL := Lib.hid hNl
  rw [hNl] at hcb hcs ⊢
  have HCS := Lib.hid hcs
  clear EX hO HN0 HB0 HW0 hN hNl hm hcs HN
  go_wp2
  go_loopw [3, 5] (fun hv i wr => ∃ k : Nat, k ≤ m ∧ i = .int .i64 (64 * (k : Int)) ∧ NL wr hv (Sha.run k Sha.H0 N) ∧ Below W1.heap.size W1 wr) (fun _ i _ => 64 * m - (intOf i).toNat)
  case atStart => exact ⟨0, by omega, rfl, HN1.out, Below.refl _ _⟩
  case round =>
    clear HN1
    obtain ⟨k, hk, rfl, hNk, hBk⟩ := hrel
    have HNk := Lib.hid hNk
    have HBk := Lib.hid hBk
    clear hNk hBk
    by_cases hlt : k < m
    · have RS := Lib.hid (Sha.run_succ k Sha.H0 N)
      have hl8 := Sha.run_length k Sha.H0 N rfl
      have hsm := Sha.run_small k Sha.H0 N Sha.H0_small
      have hbs : Sha.bytes ((N.drop (64 * k)).take 64) := fun x hx => HNB.out x (List.mem_of_mem_drop (List.mem_of_mem_take hx))
      have hbl : ((N.drop (64 * k)).take 64).length = 64 := by rw [List.length_take, List.length_drop, HNL.out]; omega
      have hba : BytesAt wr gb (64 * k) ((N.drop (64 * k)).take 64) := fun i hi => by
        rw [hbl] at hi
        rw [(HBk.out.cell (p := ⟨gb, 64 * k + i, none⟩) hgb), HCS.out (64 * k + i) (by omega)]
        rw [List.getD_eq_getElem?_getD, List.getD_eq_getElem?_getD, List.getElem?_take, if_pos hi, List.getElem?_drop]
      have BK := Lib.hid (block_any _ _ hl8 hsm hbs hbl u3 wr HNk.out gb (64 * k) (cb - 64 * k) (Nat.lt_of_lt_of_le hgb HBk.out.size) hba)
      have b0 : 64 * (k : Int) ≤ 64 * (k : Int) + 64 := by omega
      have b1 : 64 * (k : Int) + 64 ≤ 64 * (m : Int) := by omega
      have b2 : 64 * (k : Int) + 64 ≤ (cb : Int) := by omega
      clear hbs hba hbl hsm
      go_wp2_with fail
      refine BK.out.mono ?_
      rintro e W2 ⟨v2, rfl, hO⟩
      have HN2 : Hid (NL W2 v2 (Sha.run (k + 1) Sha.H0 N)) := Lib.hid (by
        rw [RS.out]
        exact NL.own hO.row (Sha.blk_length _ _ hl8) (by decide))
      have HB2 := Lib.hid (HBk.out.trans (hO.below.mono HBk.out.size))
      clear BK hO RS hl8
      go_wp2
      go_roundw
      case rel => first | exact ⟨k + 1, by omega, by go_num, HN2.out, HB2.out⟩ | ((repeat apply Exists.intro); exact ⟨⟨k + 1, by omega, by go_num, HN2.out, HB2.out⟩, rfl⟩)
      case measure => simp [intOf]; omega
    · obtain rfl : k = m := by omega
      have hl8 := Sha.run_length k Sha.H0 N rfl
      have hsm := Sha.run_small k Sha.H0 N Sha.H0_small
      have FIN := Lib.hid (HS.out _ rfl)
      generalize Sha.run k Sha.H0 N = H at *
      obtain ⟨gh, oh, ch, rfl, hch, hgh, hcH⟩ := HNk.out.form
      rw [hl8] at hch ⊢
      have HCH := Lib.hid hcH
      have HL8 := Lib.hid hl8
      have HSM := Lib.hid hsm
      have BW := Lib.hid (HB1.out.trans (HBk.out.mono HB1.out.size))
      clear hcH hl8 hsm HNk HBk HB1 HS HCS HNL HNB
      obtain ⟨wo, rfl⟩ : ∃ wo : World, wo = wr := ⟨_, rfl⟩
      go_wp2
      go_loopw [6, 7] (fun ov i wq => ∃ k : Nat, k ≤ 8 ∧ i = .int .i64 k ∧ OB wo ((H.take k).flatMap Sha.be4) (4 * k) ov wq) (fun _ i _ => 8 - (intOf i).toNat)
      case atStart => exact ⟨0, by omega, rfl, World.ownsRow_nil _ _ _ _, Below.refl _ _⟩
      case round =>
        obtain ⟨j, hj, rfl, hO⟩ := hrel
        have HO := Lib.hid hO
        clear hO
        by_cases hlt : j < 8
        · have hjl : j < H.length := by rw [HL8.out]; exact hlt
          have c0 : wr.cell? ⟨gh, oh + j, none⟩ = some (.int .u32 (H[j] : Nat)) := (HO.out.below.cell (p := ⟨gh, oh + j, none⟩) hgh).trans (HCH.out j _ (List.getElem?_eq_getElem hjl))
          have lx : H[j] < 4294967296 := HSM.out _ (List.getElem_mem hjl)
          have N1 := Lib.hid (flat_take H j hjl)
          have hne1 : ∀ b, u6.ownBlock = some b → b ≠ gh := fun b e => by have := (HO.out.row.lt b e).1; omega
          have q0 : (j : Int) < 8 := by omega
          generalize H[j] = x at *
          go_wp2
          go_region_held3 (fun w' => w'.cell? ⟨gh, oh + j, none⟩ = some (.int .u32 (x : Nat)))
            ((first | (with_reducible exact c0) | (with_reducible exact keepA c0) | (with_reducible exact keepA0 c0) | (with_reducible exact d0) | go_keep))
            ((refine step_append_lies _ (by rfl) _ _ _ (by rfl) wo.heap.size 5 i0 _ 1 1 Tryz.underlying39 hi hz0 hz1 hz2 rfl (by omega) u6 (4 * j) _ (by rfl) (by first | exact (HO.out.row.alloc _).drew | exact HO.out.row.drew.alloc _ | exact HO.out.row.alloc _) ⟨wr.heap.size, 0, none⟩ 4 4 (nv (Sha.be4 x)) (by rfl) (by rfl) (news_many (by first | exact heap_alloc_new _ _ | (rw [drewHeap]; exact heap_alloc_new _ _)) (by simp [nv, Sha.be4, IntKind.wrap_u8'])) (by simp [nv, Value.oneCell']) (by omega) (by simp only [maxLen]; omega) (by omega) (by have := HO.out.below.size; simp; omega) (wr.heap.size + 1) (by simp) ?_
              intro gg cc W2 hown hgr hat hlt6
              have d0 := keepG hgr (by first | exact keepA c0 | exact keepA0 c0) hne1))
          have O2 := Lib.hid hown
          have G2 : Hid ((wr.alloc _).grownBy W2 u6.ownBlock) := Lib.hid (by first | exact hgr | exact grown_of_drew hgr)
          clear hown hgr hat hlt6 d0 c0 hne1
          go_wp2
          go_roundw
          case rel =>
            have R : OB wo ((H.take (j + 1)).flatMap Sha.be4) (4 * j + 4) (.slice (some ⟨gg, 0, none⟩) (4 * j + 4) cc) W2 := HO.out.push _ (Sha.be4 x) O2.out N1.out G2.out
            rw [show 4 * j + 4 = 4 * (j + 1) by omega] at R
            first | exact ⟨j + 1, by omega, by go_num, R⟩ | ((repeat apply Exists.intro); exact ⟨⟨j + 1, by omega, by go_num, R⟩, rfl⟩)
          case measure => simp [intOf]; omega
        · obtain rfl : j = 8 := by omega
          have hfb := flat_bytes H
          have h1 := HO.out
          rw [List.take_of_length_le (by rw [HL8.out]; exact Nat.le_refl _)] at h1
          have hcv := h1.conv (by rw [Sha.flat_length, HL8.out]) (by decide) hfb
          rw [FIN.out] at hcv
          have HBF := Lib.hid (BW.out.trans (h1.below.mono BW.out.size))
          clear h1 HO hfb
          go_wp2
          go_ret
          exact ⟨rfl, HBF.out⟩
end Go.Proofs.YthlmgookaljgnaaGreatDoor
namespace Go.Proofs.YthlmgookaljgnaaGreatDoor
open Go.RowKit Go.Shelf
set_option linter.unusedVariables false

attribute [local go_sem] Oper.semAt_some

theorem and127 (x : Nat) (h : x < 2 ^ 56) : bits .and .u64 (x : Int) 127 % 256 = (x : Int) % 128 := by
  have := u64_and_nat x 127 (by omega) (by omega)
  rw [show ((127 : Nat) : Int) = 127 from rfl] at this
  rw [this, Nat.and_two_pow_sub_one_eq_mod x 7]; omega
theorem or128_u8 (x : Nat) (h : x < 128) : bits .or .u8 (x : Int) 128 = ((x + 128 : Nat) : Int) := by
  have := (bits_nat .u8 8 (by decide) wraps_u8 x 128 (by omega) (by omega)).2
  rw [show ((128 : Nat) : Int) = 128 from rfl] at this
  rw [this, or128 x h]

theorem groups_any (z : Int) (w : World) :
    Calls Tryz.prog 99 #[.int .u64 z] w fun e w' => e = .returned (.func (.func 114) #[] #[.pointer (some ⟨w.heap.size, 0, none⟩)]) ∧ w.alloc (.cells #[.int .u64 z] 154) = w' := by
  go_enter Tryz.func99, Tryz.ntmps99
  go_wp2
  go_ret
  exact ⟨rfl, rfl⟩

/-- what PutInt has done behind some groups -/
structure PutI (w : World) (pre : List (Fin 128 × Bool)) (z : Nat) (W : World) : Prop where
  out : ∃ v, Boxed W w.heap.size 39 v ∧ W.ownsRow w.heap.size 5 1 v pre.length (nv (pre.map gb))
  zb : Boxed W (w.heap.size + 1) 154 (.int .u64 (z : Int))
  bel : Below w.heap.size w W
theorem PutI.drewN {w : World} {pre : List (Fin 128 × Bool)} {z : Nat} {W : World} (h : PutI w pre z W) (n : Nat) : PutI w pre z (W.drewN n) := ⟨h.out, h.zb, ⟨h.bel.os, h.bel.tape, h.bel.output, h.bel.size, h.bel.block⟩⟩
theorem PutI.set {w : World} {pre : List (Fin 128 × Bool)} {z : Nat} {W : World} (h : PutI w pre z W) (z' : Nat) : PutI w pre z' (W.setCell ⟨w.heap.size + 1, 0, none⟩ (.int .u64 (z' : Int))) := by
  obtain ⟨v, hb, hr⟩ := h.out
  refine ⟨⟨v, (setNe (by omega) _ _).trans hb, hr.kept (Go.grownBy_setCell' W _ _) (.inr (h.zb.not_row (by decide) hr).symm)⟩, Boxed.set _ h.zb, h.bel.setCell (by simp) _⟩
theorem PutI.alloc {w : World} {pre : List (Fin 128 × Bool)} {z : Nat} {W : World} (h : PutI w pre z W) (o : Obj) : PutI w pre z (W.alloc o) := by
  obtain ⟨v, hb, hr⟩ := h.out
  exact ⟨⟨v, hb.alloc o, hr.alloc o⟩, h.zb.alloc o, h.bel.alloc (h.bel.size) o⟩
theorem PutI.putObj {w : World} {pre : List (Fin 128 × Bool)} {z : Nat} {W : World} (h : PutI w pre z W) {l : Nat} {o : Obj} (o' : Obj) (hl : w.heap.size + 2 ≤ l) (ho : W.heap[l]? = some o) (hc : o.isCells = false) : PutI w pre z (W.putObj l o') := by
  obtain ⟨v, hb, hr⟩ := h.out
  exact ⟨⟨v, (World.putObj_heap_other (by omega)).trans hb, ownsRow_putObj hr _ ho hc⟩, (World.putObj_heap_other (by omega)).trans h.zb, ⟨h.bel.os, h.bel.tape, h.bel.output, by simpa using h.bel.size, fun k hk => (World.putObj_heap_other (by omega)).trans (h.bel.block k hk)⟩⟩
theorem LoopRec.drewN {b : Nat} {r : Loop} {W : World} (h : LoopRec b r W) (n : Nat) : LoopRec b r (W.drewN n) := h
theorem LoopRec.set {b : Nat} {r : Loop} {W : World} (h : LoopRec b r W) (p : Addr) (hp : p.block < b) (v : Value) : LoopRec b r (W.setCell p v) :=
  ⟨(Below.heap_setCell _ _ _ _ (by omega)).trans h.1, (Below.heap_setCell _ _ _ _ (by omega)).trans h.2⟩

set_option maxRecDepth 100000 in
set_option maxHeartbeats 2000000 in
theorem groups1_in (n : Nat) (hn : 1 ≤ n) (w : World) (l : Nat) (Z : Nat) (hZ : Z < 128 ^ 8) (r : Loop) (b : Nat) (hb : w.heap.size + 2 ≤ b) (W : World) (h0 : PutI w [] Z W) (hr : LoopRec b r W)
    (hY : ∀ pre z x W, pre.length ≤ 10 → PutI w pre z W → LoopRec b r W → YieldAt Fence.wide (n - 1) Tryz.prog l #[.int .u8 (x.1.1 : Int), .bool x.2] W fun e W' => e = .returned (.bool true) ∧ PutI w (pre ++ [x]) z W' ∧ LoopRec b r W') :
    CallsIn Fence.wide n Tryz.prog 114 #[.func (.yield l) #[] #[], .pointer (some ⟨w.heap.size + 1, 0, none⟩)] W fun e W' => (∃ v, e = .returned v) ∧ ∃ xs z, xs = gs Z ∧ PutI w xs z W' ∧ LoopRec b r W' := by
  have H0 := Lib.hid h0
  have HR := Lib.hid hr
  clear h0 hr
  refine callsIn_of_wp Tryz.func114 rfl trivial ?_ rfl
  simp only [Tryz.ntmps114, List.size_toArray, List.length_cons, List.length_nil, Nat.reduceAdd, Nat.reduceSub, Array.replicate_succ, Array.replicate_zero, List.push_toArray, List.append_toArray, List.nil_append, List.cons_append]
  gi_wp2
  gi_loopg [] Z (fun k wr => ∃ pre, k ≤ Z ∧ PutI w pre k wr ∧ LoopRec b r wr ∧ pre ++ gs k = gs Z)
  case atStart => exact ⟨[], Nat.le_refl _, H0.out, HR.out, rfl⟩
  case round =>
    obtain ⟨pre, hkZ, hP, hL, hg⟩ := hrel
    have cz : wr.cell? ⟨w.heap.size + 1, 0, none⟩ = some (.int .u64 (gk : Int)) := hP.zb.cell
    have HP := Lib.hid hP
    have HL := Lib.hid hL
    clear hP hL
    have q1 : 0 ≤ (gk : Int) := by omega
    have q2 : (gk : Int) < 18446744073709551616 := by omega
    have q3 : (gk % 128) < 128 := Nat.mod_lt _ (by decide)
    have q6 : ((gk % 128 : Nat) : Int) = (gk : Int) % 128 := by simp
    have e1 := and127 gk (by omega)
    by_cases hlt : gk < 128
    · have q4 : (gk : Int) < 128 := by omega
      gi_wp2
      try rw [e1]
      obtain ⟨fn, tmps, assign, body, hy, hR⟩ := hY _ gk ⟨⟨gk % 128, q3⟩, true⟩ wr (by have := gs_len Z; rw [← hg, List.length_append] at this; omega) HP.out HL.out
      dsimp only at hy
      rw [q6] at hy
      rw [hy]
      gi_wp2
      refine hR.mono ?_
      rintro e W3 ⟨rfl, hP3, hL3⟩
      gi_wp2
      refine bodyPost_ret (results_none rfl _ _ _) rfl ?_
      exact ⟨⟨_, rfl⟩, _, _, by rw [← hg, gs_lt gk hlt], hP3, hL3⟩
    · have q4 : ¬ (gk : Int) < 128 := by omega
      gi_wp2
      try rw [e1]
      obtain ⟨fn, tmps, assign, body, hy, hR⟩ := hY _ gk ⟨⟨gk % 128, q3⟩, false⟩ wr (by have := gs_len Z; rw [← hg, List.length_append] at this; omega) HP.out HL.out
      dsimp only at hy
      rw [q6] at hy
      rw [hy]
      gi_wp2
      refine hR.mono ?_
      rintro e W3 ⟨rfl, hP3, hL3⟩
      have cz3 : W3.cell? ⟨w.heap.size + 1, 0, none⟩ = some (.int .u64 (gk : Int)) := hP3.zb.cell
      have fz3 : W3.frozen? ⟨w.heap.size + 1, 0, none⟩ = false := hP3.zb.frozen
      have HP3 := Lib.hid hP3
      have HL3 := Lib.hid hL3
      clear hP3 hL3
      gi_wp2
      gi_roundg (gk / 128)
      case measure => omega
      case rel =>
        refine ⟨pre ++ [(⟨gk % 128, q3⟩, false)], by omega, ?_, HL3.out.set _ (by simp; omega) _, by rw [← hg, gs_ge gk hlt (by omega), List.append_assoc]; rfl⟩
        have := HP3.out.set (gk / 128)
        rw [show ((gk / 128 : Nat) : Int) = (gk : Int) / 128 by omega] at this
        exact this
end Go.Proofs.YthlmgookaljgnaaGreatDoor
namespace Go.Proofs.YthlmgookaljgnaaGreatDoor
open Go.RowKit Go.Shelf
set_option linter.unusedVariables false

attribute [local go_sem] Oper.semAt_some

set_option maxRecDepth 100000 in
set_option maxHeartbeats 2000000 in
theorem PutInt_any (k : Nat) (hk : k ≤ 100000) (w : World) :
    Calls Tryz.prog 80 #[.int .i64 (k : Int)] w fun e w' => e = .returned (.tuple #[.string (intS k), .int .i64 0]) ∧ Below w.heap.size w w' := by
  refine callsIn_wide (n := 9) |>.1 ?_
  refine callsIn_of_wp_marks Tryz.func80 rfl trivial ?_ rfl
  refine wpIn_wide.2 ?_
  simp only [Tryz.ntmps80, List.size_toArray, List.length_cons, List.length_nil, Nat.reduceAdd, Nat.reduceSub, Array.replicate_succ, Array.replicate_zero, List.push_toArray, List.append_toArray, List.nil_append, List.cons_append]
  have q1 : ¬ (k : Int) < -4611686018427387903 := by omega
  have q2 : ¬ (k : Int) > 4611686018427387903 := by omega
  have hz : bits BinOp.xor IntKind.u64 ((k : Int) * 2) ((k : Int) / 9223372036854775808) = ((2 * k : Nat) : Int) := by
    have := u64_xor_nat (2 * k) 0 (by omega) (by omega)
    rw [show (k : Int) / 9223372036854775808 = ((0 : Nat) : Int) by omega, show (k : Int) * 2 = ((2 * k : Nat) : Int) by omega, this, Nat.xor_zero]
  have HZ := Lib.hid hz
  clear hz
  go_wp2
  rw [HZ.out]
  obtain ⟨Z, hZ⟩ : ∃ Z, 2 * k = Z := ⟨_, rfl⟩
  have HZ2 := Lib.hid hZ
  rw [hZ]
  have hZb : Z ≤ 200000 := by omega
  clear hZ HZ
  have hP0 : PutI w [] Z ((w.alloc (.cells #[.slice none 0 0] 39)).alloc (.cells #[.int .u64 (Z : Int)] 154)) := by
    refine ⟨⟨_, (Boxed.new w _ _).alloc _, World.ownsRow_nil _ _ _ _⟩, ?_, ((Below.refl _ w).alloc (Nat.le_refl _) _).alloc (by simp) _⟩
    have := Boxed.new (w.alloc (.cells #[.slice none 0 0] 39)) 154 (.int .u64 (Z : Int))
    simpa using this
  obtain ⟨W0, hW0⟩ : ∃ W0, (w.alloc (.cells #[.slice none 0 0] 39)).alloc (.cells #[.int .u64 (Z : Int)] 154) = W0 := ⟨_, rfl⟩
  have hs0 : W0.heap.size = w.heap.size + 2 := by rw [← hW0]; simp
  rw [hW0] at hP0 ⊢
  clear hW0
  refine (wpIn_wide (n := 9)).1 ?_
  refine range_seq rfl (by omega) (gf := 114) (lb := #[.pointer (some ⟨w.heap.size + 1, 0, none⟩)]) rfl trivial (enters_of Tryz.func114 (by kernel_rfl) rfl)
    (encs := fun x : Fin 128 × Bool => #[.int .u8 (x.1.1 : Int), .bool x.2]) (fun x => rfl) (fun pre z W => PutI w pre z W) (fun xs => xs = gs Z) (fun pre => pre.length ≤ 10)
    (fun pre z W l o o' hl ho hc h => h.putObj o' (by omega) ho hc) (fun pre z W o h => h.alloc o) Z hP0
    (fun x t => (((t.setIfInBounds 21 (.int .u8 (x.1.1 : Int))).setIfInBounds 22 (.bool x.2)).setIfInBounds 5 (.int .u8 (x.1.1 : Int))).setIfInBounds 6 (.bool x.2)) ?seq ?assign ?body ?done
  case seq =>
    intro l r W1 h1 hr hl hY
    subst hl
    refine (groups1_in 8 (by omega) w _ Z (by omega) r W0.heap.size (by omega) W1 h1 hr hY).mono ?_
    rintro e W' ⟨h2, xs, z, h3, h4, h5⟩
    exact ⟨h2, xs, z, h3, h4, h5⟩
  case assign =>
    intro l x W K hK
    simp only [List.setIfInBounds_toArray, List.set_cons_zero, List.set_cons_succ] at hK
    gi_wp2
    exact hK
  case body =>
    rintro l pre z ⟨⟨g, hg⟩, last⟩ W hC hP hlt
    simp only [List.setIfInBounds_toArray, List.set_cons_zero, List.set_cons_succ]
    obtain ⟨i0, hi, hz0, hz1, hz2⟩ := info_parts Tryz.infoByte'
    obtain ⟨v, hv, hrow⟩ := hP.out
    have hc := hv.cell
    have HP := Lib.hid hP
    have hB := hP.bel
    clear hP
    cases last with
    | true =>
      gi_wp2_with (gi_at_builtin; refine wpListIn_append_own _ rfl _ _ 39 rfl w.heap.size 5 i0 (.int .u8 0) 1 1 Tryz.underlying39 hi hz0 hz1 hz2 rfl (by decide) v pre.length _ rfl (hrow.alloc _) ⟨W.heap.size, 0, none⟩ 1 1 [.int .u8 (g : Int)] rfl rfl (cell_one_new _ _ _) (by simp [Value.oneCell']) (by simp only [maxLen]; omega) (by omega) (by have := hB.size; simp; omega) ?_; intro v' w1 hown' hgrow _; obtain ⟨g', cap', rfl⟩ := ownsRow_succ hown'; obtain ⟨hv1, hv2, hr2, hk2, hb2⟩ := hv.appended (by decide) hrow hB.size (Nat.le_refl _) hown' hgrow; have hc1 := hv1.cell; have hf1 := hv1.frozen)
      exact ⟨hk2.from _, ⟨_, hv2, by rw [List.length_append, List.length_singleton, List.map_append]; simpa [nv, gb] using hr2⟩, (setNe (by omega) _ _).trans ((HP.out.zb.alloc _).kept hgrow (HP.out.zb.not_row (by decide) hrow)), hB.trans hb2⟩
    | false =>
      gi_wp2_with (gi_at_builtin; refine wpListIn_append_own _ rfl _ _ 39 rfl w.heap.size 5 i0 (.int .u8 0) 1 1 Tryz.underlying39 hi hz0 hz1 hz2 rfl (by decide) v pre.length _ rfl (hrow.alloc _) ⟨W.heap.size, 0, none⟩ 1 1 [.int .u8 ((g + 128 : Nat) : Int)] rfl rfl (news_one (by rw [or128_u8 g hg])) (by simp [Value.oneCell']) (by simp only [maxLen]; omega) (by omega) (by have := hB.size; simp; omega) ?_; intro v' w1 hown' hgrow _; obtain ⟨g', cap', rfl⟩ := ownsRow_succ hown'; obtain ⟨hv1, hv2, hr2, hk2, hb2⟩ := hv.appended (by decide) hrow hB.size (Nat.le_refl _) hown' hgrow; have hc1 := hv1.cell; have hf1 := hv1.frozen)
      exact ⟨hk2.from _, ⟨_, hv2, by rw [List.length_append, List.length_singleton, List.map_append]; simpa [nv, gb] using hr2⟩, (setNe (by omega) _ _).trans ((HP.out.zb.alloc _).kept hgrow (HP.out.zb.not_row (by decide) hrow)), hB.trans hb2⟩
  case done =>
    rintro D xs z W hD rfl hP hK
    obtain ⟨v, hv, hrow⟩ := hP.out
    have hc := hv.cell
    have HO : Hid (OB w ((gs Z).map gb) (gs Z).length v W) := Lib.hid ⟨hrow, hP.bel⟩
    have hcv := HO.out.conv (by simp) (by rw [gs, gsF]; split <;> simp) (fun y hy => by obtain ⟨x, _, rfl⟩ := List.mem_map.1 hy; exact gb_lt x)
    have e : (⟨(((gs Z).map gb).map UInt8.ofNat).toArray⟩ : ByteArray) = intS k := by rw [intS, HZ2.out]; rfl
    rw [e] at hcv
    have HP := Lib.hid hP
    have HD := Lib.hid hD
    have HK := Lib.hid hK
    have HS := Lib.hid hs0
    clear hP hrow hv HO e hD hK hs0 hP0
    go_wp2
    refine ⟨by simp, .inl ⟨_, _, rfl, run_takeDeferred HK.out, ?_⟩⟩
    exact ⟨_, results_tmp2 rfl _ _ _, rfl, HP.out.bel.trans (belowK_b (w := w) (Nat.le_refl _) W D _ _ (by have := HD.out; have := HS.out; omega) HK.out rfl rfl)⟩

set_option maxHeartbeats 1000000 in
theorem PutString_any (s : ByteArray) (hs : s.size ≤ 65536) (w : World) :
    Calls Tryz.prog 55 #[.string s] w fun e w' => e = .returned (.tuple #[.string (putS s), .int .i64 0]) ∧ Below w.heap.size w w' := by
  have PI := Lib.hid (PutInt_any s.size (by omega) w)
  have hb := intS_size s.size
  go_enter Tryz.func55, Tryz.ntmps55
  go_wp2_with (go_at_call 80; refine PI.out.mono ?_; rintro e w' ⟨rfl, hB⟩; have HB := Lib.hid hB; clear hB)
  go_ret2
  exact ⟨rfl, HB.out⟩
end Go.Proofs.YthlmgookaljgnaaGreatDoor
namespace Go.Proofs.YthlmgookaljgnaaGreatDoor
open Go.RowKit Go.Shelf
set_option linter.unusedVariables false

def numZ (z : Nat) : Int := if z % 2 = 0 then ((z / 2 : Nat) : Int) else -((z / 2 : Nat) : Int) - 1
def decGo (s : ByteArray) (p : Nat) : Nat → Nat → Nat → Option (Int × Nat)
  | 0, _, _ => none
  | f + 1, i, z => if h : p + i < s.size then
      if 128 ≤ s[p + i].toNat then decGo s p f (i + 1) (z + s[p + i].toNat % 128 * 128 ^ i)
      else if (s[p + i].toNat = 0 ∧ 0 < i) ∨ numZ (z + s[p + i].toNat % 128 * 128 ^ i) < -4611686018427387903 then none
      else some (numZ (z + s[p + i].toNat % 128 * 128 ^ i), p + i + 1)
    else none
/-- what wire.Int answers behind p -/
def decI (s : ByteArray) (p : Nat) : Option (Int × Nat) := decGo s p 9 0 0
theorem numZ_bounds (z : Nat) (h : z < 128 ^ 9) : -4611686018427387904 ≤ numZ z ∧ numZ z < 4611686018427387904 := by
  unfold numZ; split <;> omega
theorem decGo_bounds (s : ByteArray) (p : Nat) : ∀ f i z v, i + f ≤ 9 → z < 128 ^ i → decGo s p f i z = some v → -4611686018427387903 ≤ v.1 ∧ v.1 < 4611686018427387904 ∧ v.2 ≤ s.size ∧ p < v.2
  | 0, _, _, _, _, _, h => by cases h
  | f + 1, i, z, v, hi, hz, h => by
    rw [decGo] at h
    split at h
    · rename_i hp
      have hz' : z + s[p + i].toNat % 128 * 128 ^ i < 128 ^ (i + 1) := by
        have : s[p + i].toNat % 128 ≤ 127 := by omega
        have h2 : s[p + i].toNat % 128 * 128 ^ i ≤ 127 * 128 ^ i := Nat.mul_le_mul_right _ this
        rw [Nat.pow_succ]; omega
      have hz9 : z + s[p + i].toNat % 128 * 128 ^ i < 128 ^ 9 := Nat.lt_of_lt_of_le hz' (Nat.pow_le_pow_right (by decide) (by omega))
      split at h
      · exact decGo_bounds s p f (i + 1) _ v (by omega) hz' h
      · split at h
        · cases h
        · rename_i hn
          cases h
          have := numZ_bounds _ hz9
          have : ¬ numZ (z + s[p + i].toNat % 128 * 128 ^ i) < -4611686018427387903 := fun h => hn (.inr h)
          dsimp only; omega
    · cases h
theorem or_shift (z c i : Nat) (hi : i ≤ 8) (hz : z < 128 ^ i) (hc : c < 128) : z ||| c * 128 ^ i = z + c * 128 ^ i := by
  have h7 : 128 ^ i = 2 ^ (7 * i) := by rw [Nat.pow_mul]
  rw [h7] at hz ⊢
  have := Nat.two_pow_add_eq_or_of_lt (i := 7 * i) (b := z) hz c
  rw [Nat.or_comm, Nat.mul_comm, ← this]; omega

theorem xor_comm_i64 (a b : Int) : bits .xor .i64 a b = bits .xor .i64 b a := by
  show IntKind.i64.wrap ((BitVec.ofInt 64 a ^^^ BitVec.ofInt 64 b).toNat : Int) = IntKind.i64.wrap ((BitVec.ofInt 64 b ^^^ BitVec.ofInt 64 a).toNat : Int)
  rw [BitVec.xor_comm]
theorem xor_zero_i64 (a : Nat) (h : a < 9223372036854775808) : bits .xor .i64 (a : Int) 0 = (a : Int) := by
  show IntKind.i64.wrap ((BitVec.ofInt 64 (a : Int) ^^^ BitVec.ofInt 64 0).toNat : Int) = _
  rw [BitVec.toNat_xor, show (BitVec.ofInt 64 0).toNat = 0 from rfl, Nat.xor_zero, ofInt_u64 a (by omega), IntKind.wrap_i64]
  omega
theorem numZ_bits (y : Nat) (h : y < 9223372036854775808) : bits .xor .i64 ((y : Int) / 2) (wrap64 (-wrap64 (bits .and .u64 (y : Int) 1))) = numZ y := by
  have e1 : bits .and .u64 (y : Int) 1 = ((y % 2 : Nat) : Int) := by
    have := u64_and_nat y 1 (by omega) (by omega)
    rw [show ((1 : Nat) : Int) = 1 from rfl] at this
    rw [this, Nat.and_one_is_mod]
  have e2 : (y : Int) / 2 = ((y / 2 : Nat) : Int) := by omega
  rw [e1, e2, numZ]
  by_cases h0 : y % 2 = 0
  · rw [if_pos h0, h0, show wrap64 (-wrap64 ((0 : Nat) : Int)) = 0 by unfold wrap64; omega, xor_zero_i64 _ (by omega)]
  · have h1 : y % 2 = 1 := by omega
    rw [if_neg h0, h1, show wrap64 (-wrap64 ((1 : Nat) : Int)) = -1 by unfold wrap64; omega, xor_comm_i64, i64_not _ (by omega)]
    omega
theorem or_wrap (z c i : Nat) (hi : i ≤ 8) (hz : z < 128 ^ i) (hc : c < 128) : bits .or .u64 (z : Int) (IntKind.u64.wrap ((c : Int) * 2 ^ (7 * i))) = ((z + c * 128 ^ i : Nat) : Int) ∧ z + c * 128 ^ i < 128 ^ (i + 1) := by
  have h1 : c * 128 ^ i ≤ 127 * 128 ^ i := Nat.mul_le_mul_right _ (by omega)
  have h2 : 128 ^ i ≤ 128 ^ 8 := Nat.pow_le_pow_right (by decide) hi
  have h3 : (c : Int) * 2 ^ (7 * i) = ((c * 128 ^ i : Nat) : Int) := by
    rw [show (128 : Nat) = 2 ^ 7 from rfl, ← Nat.pow_mul]; push_cast; rfl
  have h4 : IntKind.u64.wrap ((c * 128 ^ i : Nat) : Int) = ((c * 128 ^ i : Nat) : Int) := by rw [IntKind.wrap_u64]; omega
  rw [h3, h4, u64_or_nat _ _ (by omega) (by omega), or_shift z c i hi hz hc]
  exact ⟨rfl, by rw [Nat.pow_succ]; omega⟩

def outI : Option (Int × Nat) → Value
  | some (n, q) => .tuple #[.int .i64 n, .int .i64 (q : Int), .int .i64 0]
  | none => .tuple #[.int .i64 0, .int .i64 0, .int .i64 10]

set_option maxRecDepth 100000 in
set_option maxHeartbeats 2000000 in
theorem Int_any (s : ByteArray) (p : Nat) (hp : p ≤ s.size) (hs : s.size ≤ 100000000) (w : World) :
    Calls Tryz.prog 106 #[.string s, .int .i64 (p : Int)] w fun e w' => e = .returned (outI (decI s p)) ∧ Below w.heap.size w w' := by
  go_enter Tryz.func106, Tryz.ntmps106
  have q1 : ¬ (p : Int) < 0 := by omega
  have q2 : ¬ (p : Int) > (s.size : Int) := by omega
  go_wp2
  go_loopw [7, 19] (fun zv iv wr => ∃ i z : Nat, zv = .int .u64 (z : Int) ∧ iv = .int .i64 (i : Int) ∧ i ≤ 9 ∧ z < 128 ^ i ∧ decI s p = decGo s p (9 - i) i z ∧ Below w.heap.size w wr) (fun _ iv _ => 9 - (intOf iv).toNat)
  case atStart => exact ⟨0, 0, rfl, rfl, by omega, by decide, rfl, Below.refl _ _⟩
  case round =>
    obtain ⟨i, z, rfl, rfl, hi, hz, hd, hb⟩ := hrel
    have HB := Lib.hid hb
    have HD := Lib.hid hd
    have HZ := Lib.hid hz
    clear hb hd hz
    by_cases h9 : i < 9
    · by_cases hpi : p + i < s.size
      · have hzb : z < 128 ^ 9 := Nat.lt_of_lt_of_le HZ.out (Nat.pow_le_pow_right (by decide) (by omega))
        have r1 : (i : Int) < 9 := by omega
        have r2 : (p : Int) + (i : Int) < (s.size : Int) := by omega
        have hx : s[p + i].toNat < 256 := s[p + i].toNat_lt
        by_cases hsp : s[p + i].toNat = 0 ∧ i = 0
        · obtain ⟨hx0, rfl⟩ := hsp
          obtain rfl : z = 0 := by have := HZ.out; simp at this; exact this
          have HD3 : Hid (decI s p = some (0, p + 1)) := Lib.hid (by rw [HD.out, decGo, dif_pos hpi, if_neg (by omega), hx0, if_neg (by simp [numZ])]; rfl)
          have hp0 : p < s.size := by omega
          have t2 : (s[p].toNat : Int) = 0 := by have : s[p + 0].toNat = s[p].toNat := rfl; omega
          have f1 : bits .and .u8 0 127 = 0 := by decide
          have f2 : IntKind.u64.wrap 0 = 0 := by decide
          have f3 : bits .or .u64 0 0 = 0 := by decide
          have f4 : wrap64 0 = 0 := by unfold wrap64; omega
          have f5 : bits .and .u64 0 1 = 0 := by decide
          have f6 : bits .xor .i64 0 0 = 0 := by decide
          clear HD HZ hx0 hx
          go_wp2
          refine bodyPost_ret (results_tmp3 rfl _ _ _) rfl ?_
          exact ⟨by rw [HD3.out]; simp [outI], HB.out⟩
        obtain ⟨c, hc⟩ : ∃ c, c = s[p + i].toNat % 128 := ⟨_, rfl⟩
        have HC := Lib.hid hc
        have hcb : c < 128 := by omega
        have e1 : bits .and .u8 (s[p + i].toNat : Int) 127 = (c : Int) := by
          rw [hc]; have := bits_mask .u8 8 (by decide) wraps_u8 7 (by decide) (s[p + i].toNat : Int) (by omega) (by omega)
          rw [show (2 : Int) ^ 7 - 1 = 127 by decide] at this
          rw [this]; simp
        clear hc
        obtain ⟨y, hy⟩ : ∃ y, y = z + c * 128 ^ i := ⟨_, rfl⟩
        have e2 := (or_wrap z c i (by omega) HZ.out hcb).1
        have hyb := (or_wrap z c i (by omega) HZ.out hcb).2
        rw [← hy] at e2 hyb
        have hy9 : y < 128 ^ 9 := Nat.lt_of_lt_of_le hyb (Nat.pow_le_pow_right (by decide) (by omega))
        have HYB := Lib.hid hyb
        have HD2 : Hid (decI s p = if 128 ≤ s[p + i].toNat then decGo s p (8 - i) (i + 1) y else if (s[p + i].toNat = 0 ∧ 0 < i) ∨ numZ y < -4611686018427387903 then none else some (numZ y, p + i + 1)) := Lib.hid (by
          rw [HD.out, show 9 - i = (8 - i) + 1 by omega, decGo, dif_pos hpi, ← HC.out, ← hy])
        have e3 := numZ_bits y (by omega)
        have hnb := numZ_bounds y hy9
        clear hy hyb HD
        generalize numZ y = N at *
        by_cases hge : 128 ≤ s[p + i].toNat
        · have t1 : ¬ (s[p + i].toNat : Int) < 128 := by omega
          go_wp2
          exact ⟨⟨i + 1, y, rfl, by go_num, by omega, HYB.out, by rw [HD2.out, if_pos hge, show 9 - (i + 1) = 8 - i by omega], HB.out⟩, by simp [intOf]; omega⟩
        · have t1 : (s[p + i].toNat : Int) < 128 := by omega
          have D2 := HD2.out
          rw [if_neg hge] at D2
          clear HD2
          by_cases hbad : (s[p + i].toNat = 0 ∧ 0 < i) ∨ N < -4611686018427387903
          · rw [if_pos hbad] at D2
            have HD3 := Lib.hid D2
            have HBAD := Lib.hid hbad
            clear D2 hbad
            by_cases hx0 : s[p + i].toNat = 0
            · have t2 : (s[p + i].toNat : Int) = 0 := by omega
              by_cases hi0 : 0 < i
              · have t3 : 0 < (i : Int) := by omega
                clear hx0 hi0
                go_wp2
                refine bodyPost_ret (results_tmp3 rfl _ _ _) rfl ?_
                exact ⟨by rw [HD3.out]; rfl, HB.out⟩
              · exact (hsp ⟨hx0, by omega⟩).elim
            · have t2 : ¬ (s[p + i].toNat : Int) = 0 := by omega
              have t4 : N < -4611686018427387903 := HBAD.out.resolve_left (fun h => hx0 h.1)
              clear hx0
              go_wp2
              refine bodyPost_ret (results_tmp3 rfl _ _ _) rfl ?_
              exact ⟨by rw [HD3.out]; rfl, HB.out⟩
          · rw [if_neg hbad] at D2
            have HD3 := Lib.hid D2
            have n1 : ¬ N < -4611686018427387903 := fun h => hbad (.inr h)
            have HBAD := Lib.hid hbad
            clear D2 hbad
            by_cases hx0 : s[p + i].toNat = 0
            · exact (HBAD.out (.inl ⟨hx0, by omega⟩)).elim
            · have t2 : ¬ (s[p + i].toNat : Int) = 0 := by omega
              clear hx0
              go_wp2
              refine bodyPost_ret (results_tmp3 rfl _ _ _) rfl ?_
              exact ⟨by rw [HD3.out]; simp [outI], HB.out⟩
      · have r1 : (i : Int) < 9 := by omega
        have r2 : ¬ (p : Int) + (i : Int) < (s.size : Int) := by omega
        have HD3 : Hid (decI s p = none) := Lib.hid (by rw [HD.out, show 9 - i = (8 - i) + 1 by omega, decGo, dif_neg hpi])
        go_wp2
        refine bodyPost_ret (results_tmp3 rfl _ _ _) rfl ?_
        exact ⟨by rw [HD3.out]; rfl, HB.out⟩
    · obtain rfl : i = 9 := by omega
      have HD3 : Hid (decI s p = none) := Lib.hid (by rw [HD.out]; rfl)
      go_wp2
      refine bodyPost_ret (results_tmp3 rfl _ _ _) rfl ?_
      exact ⟨by rw [HD3.out]; rfl, HB.out⟩

/-- what wire.String answers behind p -/
def decS (s : ByteArray) (p : Nat) : Option (ByteArray × Nat) :=
  match decI s p with
  | some (n, q) => if n < 0 ∨ 65536 < n ∨ (s.size : Int) - (q : Int) < n then none else some (s.extract q (q + n.toNat), q + n.toNat)
  | none => none
def outS : Option (ByteArray × Nat) → Value
  | some (r, q) => .tuple #[.string r, .int .i64 (q : Int), .int .i64 0]
  | none => .tuple #[.string ⟨#[]⟩, .int .i64 0, .int .i64 10]

set_option maxHeartbeats 1000000 in
theorem String_any (s : ByteArray) (p : Nat) (hp : p ≤ s.size) (hs : s.size ≤ 100000000) (w : World) :
    Calls Tryz.prog 91 #[.string s, .int .i64 (p : Int)] w fun e w' => e = .returned (outS (decS s p)) ∧ Below w.heap.size w w' := by
  have PI := Lib.hid (Int_any s p hp hs w)
  rcases hI : decI s p with _ | ⟨n, q⟩
  · have HD : Hid (decS s p = none) := Lib.hid (by rw [decS, hI])
    rw [hI] at PI
    clear hI
    go_enter Tryz.func91, Tryz.ntmps91
    go_wp2_with (go_at_call 106; refine PI.out.mono ?_; unfold outI; rintro e w' ⟨rfl, hB⟩; have HB := Lib.hid hB; clear hB)
    refine bodyPost_ret (results_tmp3 rfl _ _ _) rfl ?_
    exact ⟨by rw [HD.out]; rfl, HB.out⟩
  · obtain ⟨b1, b2, b3, b4⟩ := decGo_bounds s p 9 0 0 _ (by omega) (by decide) hI
    dsimp only at b1 b2 b3 b4
    rw [hI] at PI
    by_cases hbad : n < 0 ∨ 65536 < n ∨ (s.size : Int) - (q : Int) < n
    · have HD : Hid (decS s p = none) := Lib.hid (by rw [decS, hI]; exact if_pos hbad)
      clear hI
      have h1 : ((q : Int)) ≤ (s.size : Int) := by omega
      rcases Classical.em (n < 0) with g1 | g1
      · go_enter Tryz.func91, Tryz.ntmps91
        go_wp2_with (go_at_call 106; refine PI.out.mono ?_; unfold outI; rintro e w' ⟨rfl, hB⟩; have HB := Lib.hid hB; clear hB)
        refine bodyPost_ret (results_tmp3 rfl _ _ _) rfl ?_
        exact ⟨by rw [HD.out]; rfl, HB.out⟩
      · rcases Classical.em (65536 < n) with g2 | g2
        · go_enter Tryz.func91, Tryz.ntmps91
          go_wp2_with (go_at_call 106; refine PI.out.mono ?_; unfold outI; rintro e w' ⟨rfl, hB⟩; have HB := Lib.hid hB; clear hB)
          refine bodyPost_ret (results_tmp3 rfl _ _ _) rfl ?_
          exact ⟨by rw [HD.out]; rfl, HB.out⟩
        · have g3 : (s.size : Int) - (q : Int) < n := (hbad.resolve_left g1).resolve_left g2
          go_enter Tryz.func91, Tryz.ntmps91
          go_wp2_with (go_at_call 106; refine PI.out.mono ?_; unfold outI; rintro e w' ⟨rfl, hB⟩; have HB := Lib.hid hB; clear hB)
          refine bodyPost_ret (results_tmp3 rfl _ _ _) rfl ?_
          exact ⟨by rw [HD.out]; rfl, HB.out⟩
    · have HD : Hid (decS s p = some (s.extract q (q + n.toNat), q + n.toNat)) := Lib.hid (by rw [decS, hI]; exact if_neg hbad)
      clear hI
      obtain ⟨m, hm⟩ := Int.eq_ofNat_of_zero_le (show 0 ≤ n by omega)
      subst hm
      have c1 : (m : Int) ≤ 65536 := by omega
      have c2 : (m : Int) ≤ (s.size : Int) - (q : Int) := by omega
      have c3 : (q : Int) + (m : Int) ≤ (s.size : Int) := by omega
      clear hbad b1 b2
      go_enter Tryz.func91, Tryz.ntmps91
      go_wp2_with (go_at_call 106; refine PI.out.mono ?_; unfold outI; rintro e w' ⟨rfl, hB⟩; have HB := Lib.hid hB; clear hB)
      refine bodyPost_ret (results_tmp3 rfl _ _ _) rfl ?_
      exact ⟨by rw [HD.out]; simp [outS], HB.out⟩
end Go.Proofs.YthlmgookaljgnaaGreatDoor
namespace Go.Proofs.YthlmgookaljgnaaGreatDoor
open Go.RowKit Go.Shelf
set_option linter.unusedVariables false
attribute [local go_sem] Oper.semAt_some

def wayEB (n m : Nat) (t : List ByteArray) (w : Bool) : Option (List (ByteArray × Bool) × List ByteArray × Bool) := Dig.wayE n m t w
/-- what a way that was walked to its end answers -/
def endEB (old root : ByteArray) : Option (List (ByteArray × Bool) × List ByteArray × Bool) → Bool
  | none => false
  | some (ws, r, true) => r.isEmpty && (Dig.first nodeB old ws == old) && (Dig.value nodeB old ws == root)
  | some (ws, [r0], false) => (Dig.first nodeB r0 ws == old) && (Dig.value nodeB r0 ws == root)
  | some (_, _, false) => false
def fineE (old : ByteArray) (m : Int) (root : ByteArray) (n : Int) (P : List ByteArray) : Bool := decide (0 ≤ m) && decide (m ≤ n) && allD P && (old.size == 32) && (root.size == 32)
def verEB (old : ByteArray) (m : Int) (root : ByteArray) (n : Int) (P : List ByteArray) : Bool :=
  fineE old m root n P && (if m = 0 then P.isEmpty && (old == empB) else if m = n then P.isEmpty && (old == root) else endEB old root (wayEB n.toNat m.toNat P.reverse true))

end Go.Proofs.YthlmgookaljgnaaGreatDoor
namespace Go.Proofs.YthlmgookaljgnaaGreatDoor
open Go.RowKit Go.Shelf
set_option linter.unusedVariables false
attribute [local go_sem] Oper.semAt_some

/-- the older root's sides from the end of a way on -/
def firstF (L : List (ByteArray × Bool)) (pre : List (Fin L.length)) (r : ByteArray) : ByteArray := pre.foldl (fun o x => if L[x].2 then Dig.join nodeB L[x] o else o) r
theorem firstF_snoc (L : List (ByteArray × Bool)) (pre : List (Fin L.length)) (x : Fin L.length) (r : ByteArray) : firstF L (pre ++ [x]) r = if L[x].2 then Dig.join nodeB L[x] (firstF L pre r) else firstF L pre r := by simp [firstF]
theorem firstF_size (L : List (ByteArray × Bool)) (pre : List (Fin L.length)) (r : ByteArray) (hr : r.size = 32) : (firstF L pre r).size = 32 := by
  rcases snoc_cases pre with rfl | ⟨p, x, rfl⟩
  · exact hr
  · rw [firstF_snoc]
    split
    · exact join_size _ _
    · exact firstF_size L p r hr
termination_by pre.length
decreasing_by simp_all
theorem firstF_all (L : List (ByteArray × Bool)) (r : ByteArray) : firstF L (List.finRange L.length).reverse r = Dig.first nodeB r L := by
  unfold firstF Dig.first
  rw [List.foldl_reverse]
  have := List.foldr_map (f := fun x : Fin L.length => L[x]) (g := fun (s : ByteArray × Bool) o => if s.2 then Dig.join nodeB s o else o) (l := List.finRange L.length) (init := r)
  rw [map_finRangeS] at this
  exact this.symm

/-- two boxes and the box of the walked row -/
theorem box3 {w W1 W4 : World} {A C : Obj} (h : ((W1.alloc A).alloc A).alloc C = W4) (hB : Below w.heap.size w W1) : W4.heap[W1.heap.size]? = some A ∧ W4.heap[W1.heap.size + 1]? = some A ∧ W4.heap[W1.heap.size + 2]? = some C ∧ W4.heap.size = W1.heap.size + 3 ∧ (∀ p v, p.block < W1.heap.size → W1.cell? p = some v → W4.cell? p = some v) ∧ Below w.heap.size w W4 := by
  subst h
  refine ⟨?_, ?_, ?_, by simp, ?_, ?_⟩
  · rw [allocOld (by simp; omega), allocOld (by simp)]; exact allocAt _ rfl
  · rw [allocOld (by simp)]; exact allocAt _ (by simp)
  · exact allocAt _ (by simp)
  · intro p v hp hv
    exact ((((Below.refl W1.heap.size W1).alloc (Nat.le_refl _) A).alloc (by simp) A).alloc (by simp; omega) C).cell (p := p) hp |>.trans hv
  · have := hB.size
    exact ((hB.alloc hB.size _).alloc (by simp; omega) _).alloc (by simp; omega) _
theorem box3d {w W1 W4 : World} {A C : Obj} (h : ((W1.alloc A).alloc A).drew.alloc C = W4) (hB : Below w.heap.size w W1) : W4.heap[W1.heap.size]? = some A ∧ W4.heap[W1.heap.size + 1]? = some A ∧ W4.heap[W1.heap.size + 2]? = some C ∧ W4.heap.size = W1.heap.size + 3 ∧ (∀ p v, p.block < W1.heap.size → W1.cell? p = some v → W4.cell? p = some v) ∧ Below w.heap.size w W4 := by
  subst h
  refine ⟨?_, ?_, ?_, by rw [World.size_alloc, drewHeap]; simp, ?_, ?_⟩
  · rw [allocOld (by rw [drewHeap]; simp; omega), drewHeap, allocOld (by simp)]; exact allocAt _ rfl
  · rw [allocOld (by rw [drewHeap]; simp), drewHeap]; exact allocAt _ (by simp)
  · exact allocAt _ (by rw [drewHeap]; simp)
  · intro p v hp hv
    exact ((((Below.refl W1.heap.size W1).alloc (Nat.le_refl _) A).alloc (by simp) A).drew.alloc (by rw [drewHeap]; simp; omega) C).cell (p := p) hp |>.trans hv
  · have := hB.size
    exact (((hB.alloc hB.size _).alloc (by simp; omega) _).drew).alloc (by rw [drewHeap]; simp; omega) _

end Go.Proofs.YthlmgookaljgnaaGreatDoor
namespace Go.Proofs.YthlmgookaljgnaaGreatDoor
open Go.RowKit
set_option linter.unusedVariables false

def hexC : ByteArray := ⟨#[48, 49, 50, 51, 52, 53, 54, 55, 56, 57, 97, 98, 99, 100, 101, 102]⟩
def hexS (o : ByteArray) (c : UInt8) : ByteArray := o ++ hexC.extract (c.toNat / 16) (c.toNat / 16 + 1) ++ hexC.extract (c.toNat % 16) (c.toNat % 16 + 1)
def hexB (l : List UInt8) : ByteArray := l.foldl hexS ⟨#[]⟩
theorem hexB_snoc (l : List UInt8) (c : UInt8) : hexB (l ++ [c]) = hexS (hexB l) c := by simp [hexB]
theorem hexS_size (o : ByteArray) (c : UInt8) : (hexS o c).size ≤ o.size + 2 := by
  have h : hexC.size = 16 := rfl
  unfold hexS
  simp only [ByteArray.size_append, ByteArray.size_extract]
  omega
theorem hexB_size : ∀ l : List UInt8, (hexB l).size ≤ 2 * l.length := by
  intro l
  rcases snoc_cases l with rfl | ⟨p, x, rfl⟩
  · exact Nat.le_refl _
  · have h1 := hexB_size p
    have h2 := hexS_size (hexB p) x
    rw [hexB_snoc]; simp; omega
termination_by l => l.length
decreasing_by simp_all
theorem below_drewN {b : Nat} {w w' : World} (h : Below b w w') (n : Nat) : Below b w (w'.drewN n) := ⟨h.os, h.tape, h.output, h.size, h.block⟩
theorem take_snocB (s : ByteArray) (k : Nat) (h : k < s.size) : s.data.toList.take (k + 1) = s.data.toList.take k ++ [s[k]] := by
  rw [List.take_succ_eq_append_getElem (by simpa using h)]; rfl

def binN (n : Nat) : Nat := if n = 0 then 0 else binN (n / 2) + 1
theorem binN_pos (n : Nat) (h : 0 < n) : binN n = binN (n / 2) + 1 := by rw [binN, if_neg (by omega)]
theorem binN_le (n : Nat) : binN n ≤ n := by
  induction n using Nat.strongRecOn with
  | ind n ih =>
    rw [binN]; split
    · omega
    · have := ih (n / 2) (by omega); omega

end Go.Proofs.YthlmgookaljgnaaGreatDoor
namespace Go.Proofs.YthlmgookaljgnaaGreatDoor
open Go.RowKit
set_option linter.unusedVariables false

def cut60 (s : ByteArray) : ByteArray := s.extract 0 (min s.size 60)
theorem cut60_size (s : ByteArray) : (cut60 s).size ≤ 60 := by unfold cut60; simp only [ByteArray.size_extract]; omega
def fewB (l : List ByteArray) (n : Nat) : List ByteArray := (l.take n).map cut60
theorem fewB_snoc (l : List ByteArray) (k : Nat) (h : k < l.length) : fewB l (k + 1) = fewB l k ++ [cut60 l[k]] := by
  unfold fewB; rw [List.take_succ_eq_append_getElem h, List.map_append]; rfl
theorem fewB_length (l : List ByteArray) (n : Nat) : (fewB l n).length = min n l.length := by simp [fewB]
theorem fewB_small (l : List ByteArray) (n : Nat) : ∀ s ∈ fewB l n, s.size ≤ 60 := by
  intro s hs
  obtain ⟨x, _, rfl⟩ := List.mem_map.1 hs
  exact cut60_size x

/-- what few hands back reads as a list -/
theorem SL_own {w : World} {base : Nat} {v : Value} {l : List ByteArray} (h : w.ownsRow base 9 1 v l.length (strV l)) : SL w v l := by
  by_cases h0 : 0 < l.length
  · obtain ⟨g, cap, e, h1, h2, h3, h4, h5⟩ := own_form h h0
    refine ⟨_, cap, e, h3, fun _ => ⟨g, 0, rfl, h2, fun j x hj => ?_⟩⟩
    rw [Nat.zero_add]
    exact h5 j _ (by rw [strV, List.getElem?_map, hj]; rfl)
  · have e0 : l = [] := List.eq_nil_of_length_eq_zero (by omega)
    subst e0
    rcases h.2 with ⟨e, _⟩ | ⟨g, c, cur, e, _⟩
    · exact ⟨none, 0, e, Nat.le_refl _, fun h => absurd h (by simp)⟩
    · exact ⟨_, c, e, by simp, fun h => absurd h (by simp)⟩
end Go.Proofs.YthlmgookaljgnaaGreatDoor
namespace Go.Proofs.YthlmgookaljgnaaGreatDoor
open Go.RowKit
set_option linter.unusedVariables false

theorem cell_add {w : World} {b j : Nat} : w.cell? ((⟨b, 0, none⟩ : Addr).add j) = w.cell? ⟨b, j, none⟩ := by
  unfold Addr.add
  by_cases h : j = 0
  · subst h; rfl
  · simp [h]
/-- Appending an own row of strings to an own row of strings. -/
theorem wpList_append_strs {w : World} {ops : Array Oper} {rest : List Oper} {o : Oper} {a : Act} {Q : Exit → Act → World → Prop} (hgd : o.guard = none) (s x : Operand)
    (ho : o.op = .call { callee := .builtin .append, args := #[s, x], argTypes := #[22, 22] }) (base : Nat) (v : Value) (n : Nat) (xs : List ByteArray) (hs : a.eval s = v) (hown : w.ownsRow base 9 1 v n (strV xs))
    (b2 : Nat) (v2 : Value) (m : Nat) (ys : List ByteArray) (hx : a.eval x = v2) (hown2 : w.ownsRow b2 9 1 v2 m (strV ys)) (hn : n + m ≤ 1000000) (hbase : base ≤ w.heap.size)
    (h : ∀ v' w', w'.ownsRow base 9 1 v' (n + m) (strV (xs ++ ys)) → w.grownBy w' v.ownBlock → wpList Tryz.prog ops Q rest (a.put o.dst v') w') : wpList Tryz.prog ops Q (o :: rest) a w := by
  obtain ⟨i0, hi, hz0, hz1, hz2⟩ := info_parts Tryz.infoStr
  have hl : ys.length = m := by have := hown2.1; simpa [strV] using this
  rcases hown2.2 with ⟨e, e0⟩ | ⟨g, cap, cur, e, hb, hg, hnc, hc, hsz, htk⟩
  · subst e
    have hy : ys = [] := List.eq_nil_of_length_eq_zero (by omega)
    subst hy
    refine wpList_append_own_none hgd s x 22 ho base 9 i0 1 Tryz.underlying22 hi v n (strV xs) hs hown hx ?_
    have := h v w (by rw [e0]; simpa using hown) (World.grownBy.refl _ _)
    exact this
  · subst e
    refine wpList_append_own w hgd s x 22 ho base 9 i0 _ 1 16 Tryz.underlying22 hi hz0 hz1 hz2 rfl (by decide) v n (strV xs) hs hown ⟨g, 0, none⟩ m cap (strV ys) hx (by simp [strV]; omega) (fun j u hu => ?_) (fun u hu => ?_) (by simp only [maxLen]; omega) (by omega) hbase (fun v' w' h1 h2 _ => h v' w' (by simpa [strV] using h1) h2)
    · rw [cell_add, cellOf hg, ← hu, ← htk, List.getElem?_take]
      have hj : j < m := by
        rw [List.getElem?_eq_some_iff] at hu
        obtain ⟨hj, _⟩ := hu
        simp [strV] at hj; omega
      rw [if_pos (by omega)]
      simp
    · simp only [strV, List.mem_map] at hu
      obtain ⟨y, _, rfl⟩ := hu
      rfl

/-- a literal slice of strings is an own row -/
theorem own_lit (W : World) (xs : List ByteArray) (base : Nat) (hb : base ≤ W.heap.size) (hl : xs.length ≤ 1000000) : (W.alloc (.cells (strV xs).toArray 9)).ownsRow base 9 1 (.slice (some ⟨W.heap.size, 0, none⟩) xs.length xs.length) xs.length (strV xs) :=
  ⟨by simp [strV], .inr ⟨_, xs.length, _, rfl, hb, allocAt _ rfl, Nat.le_refl _, by simp only [maxLen]; omega, by simp [strV], by simp only [strV, Nat.mul_one]; exact List.take_of_length_le (by simp)⟩⟩

end Go.Proofs.YthlmgookaljgnaaGreatDoor
namespace Go.Proofs.YthlmgookaljgnaaGreatDoor
open Go.RowKit
set_option linter.unusedVariables false

theorem run_append_none {P : Program} {w : World} (base : Nat) (t ty e : TypeId) (i : TypeInfo) (size c : Nat) (ht : P.underlying t = some (.slice e)) (hi : P.info? e = some i)
    (v : Value) (n : Nat) (xs : List Value) (hown : w.ownsRow base e size v n xs) :
    (Builtin.append_ #[t, t] ty #[v, .slice none 0 c]).run P w = .ok v w := by
  rcases hown.2 with ⟨rfl, rfl⟩ | ⟨g, cap, cur, rfl, _, _, hnc, _⟩
  · simp [Builtin.append_, run_underlying ht, sizeOf, typeInfo, hi, Builtin.lenOf, Builtin.firstCells]
  · simp [Builtin.append_, run_underlying ht, sizeOf, typeInfo, hi, Builtin.lenOf, Builtin.firstCells, hnc, storeCells]

theorem wp_append_sl {w : World} {o : Oper} {a : Act} {K : Act → World → Prop} {Q : Exit → Act → World → Prop} (s x : Operand)
    (ho : o.op = .call { callee := .builtin .append, args := #[s, x], argTypes := #[22, 22] }) (base : Nat) (v : Value) (n : Nat) (xs : List ByteArray) (hs : a.eval s = v) (hown : w.ownsRow base 9 1 v n (strV xs))
    (v2 : Value) (ys : List ByteArray) (hx : a.eval x = v2) (hsl : SL w v2 ys) (hn : n + ys.length ≤ 1000000) (hbase : base ≤ w.heap.size)
    (h : ∀ v' w', w'.ownsRow base 9 1 v' (n + ys.length) (strV (xs ++ ys)) → w.grownBy w' v.ownBlock → K (a.put o.dst v') w') : o.wp Tryz.prog a w K Q := by
  obtain ⟨i0, hi, hz0, hz1, hz2⟩ := info_parts Tryz.infoStr
  obtain ⟨ad, c, rfl, hc, hcs⟩ := hsl.form
  cases ad with
  | none =>
    have hy : ys = [] := by
      cases ys with
      | nil => rfl
      | cons y ys => obtain ⟨b, off, e, _⟩ := hcs (by simp); cases e
    subst hy
    have hrun := run_append_none (P := Tryz.prog) base 22 o.type 9 i0 1 c Tryz.underlying22 hi v n (strV xs) hown
    have := h v w (by simpa using hown) (World.grownBy.refl _ _)
    unfold Oper.wp execOp
    simp only [ho, resolve, invoke, builtin, Sem.run_bind, Sem.run_pure, Result.andThen_ok, List.map_toArray, List.map_cons, List.map_nil, hs, hx, List.length_nil, hrun]
    exact this
  | some ad =>
    refine wp_append_own w s x 22 ho base 9 i0 _ 1 16 Tryz.underlying22 hi hz0 hz1 hz2 rfl (by decide) v n (strV xs) hs hown ad ys.length c (strV ys) hx (by simp [strV]) (fun j u hu => ?_) (fun u hu => ?_) (by simp only [maxLen]; omega) (by omega) hbase (fun v' w' h1 h2 _ => h v' w' (by simpa [strV] using h1) h2)
    · have hj : j < ys.length := by
        have := (List.getElem?_eq_some_iff.1 hu).1
        simpa [strV] using this
      obtain ⟨b, off, e, hb, hc⟩ := hcs (by omega)
      cases e
      have hadd : (⟨b, off, none⟩ : Addr).add j = ⟨b, off + j, none⟩ := by
        unfold Addr.add
        by_cases h : j = 0
        · subst h; simp
        · simp [h]
      rw [hadd, hc j ys[j] (List.getElem?_eq_getElem hj), ← hu]
      simp [strV, hj]
    · simp only [strV, List.mem_map] at hu
      obtain ⟨y, _, rfl⟩ := hu
      rfl
theorem wpList_append_sl {w : World} {ops : Array Oper} {rest : List Oper} {o : Oper} {a : Act} {Q : Exit → Act → World → Prop} (hgd : o.guard = none) (s x : Operand)
    (ho : o.op = .call { callee := .builtin .append, args := #[s, x], argTypes := #[22, 22] }) (base : Nat) (v : Value) (n : Nat) (xs : List ByteArray) (hs : a.eval s = v) (hown : w.ownsRow base 9 1 v n (strV xs))
    (v2 : Value) (ys : List ByteArray) (hx : a.eval x = v2) (hsl : SL w v2 ys) (hn : n + ys.length ≤ 1000000) (hbase : base ≤ w.heap.size)
    (h : ∀ v' w', w'.ownsRow base 9 1 v' (n + ys.length) (strV (xs ++ ys)) → w.grownBy w' v.ownBlock → wpList Tryz.prog ops Q rest (a.put o.dst v') w') : wpList Tryz.prog ops Q (o :: rest) a w :=
  wpList_plain hgd fun _ hK => wp_append_sl s x ho base v n xs hs hown v2 ys hx hsl hn hbase fun v' w' h1 h2 => hK _ _ (h v' w' h1 h2)
theorem step_append_sl {w : World} {ops : Array Oper} {o : Oper} {a : Act} {K : Act → World → Prop} {Q : Exit → Act → World → Prop} {E : Prop} (hgd : o.guard = none) (s x : Operand)
    (ho : o.op = .call { callee := .builtin .append, args := #[s, x], argTypes := #[22, 22] }) (base : Nat) (v : Value) (n : Nat) (xs : List ByteArray) (hs : a.eval s = v) (hown : w.ownsRow base 9 1 v n (strV xs))
    (v2 : Value) (ys : List ByteArray) (hx : a.eval x = v2) (hsl : SL w v2 ys) (hn : n + ys.length ≤ 1000000) (hbase : base ≤ w.heap.size)
    (h : ∀ v' w', w'.ownsRow base 9 1 v' (n + ys.length) (strV (xs ++ ys)) → w.grownBy w' v.ownBlock → K (a.put o.dst v') w') :
    if Region.wanted o (yielded ops a.tmps) = true then Oper.wp Tryz.prog o a w K Q else E := by
  have hw : Region.wanted o (yielded ops a.tmps) = true := by simp [Region.wanted, hgd]
  rw [if_pos hw]
  exact wp_append_sl s x ho base v n xs hs hown v2 ys hx hsl hn hbase h
end Go.Proofs.YthlmgookaljgnaaGreatDoor
namespace Go.Proofs.YthlmgookaljgnaaGreatDoor
open Go.RowKit Go.Shelf
set_option linter.unusedVariables false

structure TV where
  recs : List ByteArray
  head : ByteArray
  size : Nat

/-- A tape at the beginning of block b. -/
structure TapeAt (w : World) (b : Nat) (T : TypeId) (rest : List Value) (lv : Value) (t : TV) : Prop where
  cells : w.heap[b]? = some (.cells (lv :: .string t.head :: .int .i64 (t.size : Int) :: rest).toArray T (0, 0))
  row : w.ownsRow 0 9 1 lv t.recs.length (t.recs.map .string)
  ty : T ≠ 9
  hd : t.head.size = 32
  ln : t.recs.length ≤ 1000000
  sz : t.size ≤ 1000000000

theorem TapeAt.ne {w : World} {b : Nat} {T : TypeId} {rest : List Value} {lv : Value} {t : TV} (h : TapeAt w b T rest lv t) : lv.ownBlock ≠ some b := by
  intro e
  rcases h.row.2 with ⟨e1, _⟩ | ⟨g, cap, cur, e1, _, hg, _⟩
  · rw [e1] at e; cases e
  · rw [e1] at e; injection e with e; subst e; exact ty_ne h.cells hg h.ty rfl
theorem TapeAt.kept {w w' : World} {b : Nat} {T : TypeId} {rest : List Value} {lv : Value} {t : TV} (h : TapeAt w b T rest lv t) (hk : ∀ k, k < w.heap.size → k = b ∨ lv.ownBlock = some k → w'.heap[k]? = w.heap[k]?) : TapeAt w' b T rest lv t := by
  refine ⟨(hk _ (ltOf h.cells) (.inl rfl)).trans h.cells, ⟨h.row.1, ?_⟩, h.ty, h.hd, h.ln, h.sz⟩
  rcases h.row.2 with e | ⟨g, cap, cur, e, hb, hg, r⟩
  · exact .inl e
  · exact .inr ⟨g, cap, cur, e, hb, (hk g (ltOf hg) (.inr (by rw [e]; rfl))).trans hg, r⟩
theorem TapeAt.upd {S : Nat → Prop} {w w' : World} {b : Nat} {T : TypeId} {rest : List Value} {lv : Value} {t : TV} (h : TapeAt w b T rest lv t) (hU : Upd S w w') (hS : ∀ k, k = b ∨ lv.ownBlock = some k → ¬ S k) : TapeAt w' b T rest lv t :=
  h.kept fun k hk hf => hU.block k hk (hS k hf)
theorem TapeAt.below {w w' : World} {b : Nat} {T : TypeId} {rest : List Value} {lv : Value} {t : TV} (h : TapeAt w b T rest lv t) (hB : Below w.heap.size w w') : TapeAt w' b T rest lv t := h.kept fun k hk _ => hB.block k hk
theorem TapeAt.setHead {w : World} {b : Nat} {T : TypeId} {rest : List Value} {lv : Value} {t : TV} (h : TapeAt w b T rest lv t) (hd : ByteArray) (h32 : hd.size = 32) : TapeAt (w.setCell ⟨b, 1, none⟩ (.string hd)) b T rest lv ⟨t.recs, hd, t.size⟩ := by
  refine ⟨?_, h.row.kept (Lib.grownBy_setCell w b 1 _) (.inr h.ne), h.ty, h32, h.ln, h.sz⟩
  rw [setOf_ h.cells]; rfl
theorem TapeAt.setSize {w : World} {b : Nat} {T : TypeId} {rest : List Value} {lv : Value} {t : TV} (h : TapeAt w b T rest lv t) (n : Nat) (hn : n ≤ 1000000000) : TapeAt (w.setCell ⟨b, 2, none⟩ (.int .i64 (n : Int))) b T rest lv ⟨t.recs, t.head, n⟩ := by
  refine ⟨?_, h.row.kept (Lib.grownBy_setCell w b 2 _) (.inr h.ne), h.ty, h.hd, h.ln, hn⟩
  rw [setOf_ h.cells]; rfl

theorem TapeAt.pushed {w W3 : World} {b : Nat} {T : TypeId} {rest : List Value} {lv : Value} {t : TV} (h : TapeAt w b T rest lv t) (r : ByteArray) {o : Obj} {g cap : Nat} (hl : t.recs.length ≤ 900000)
    (hown : W3.ownsRow 0 9 1 (.slice (some ⟨g, 0, none⟩) (t.recs.length + 1) cap) (t.recs.length + 1) (t.recs.map .string ++ [.string r])) (hg : (w.alloc o).grownBy W3 lv.ownBlock) :
    W3.heap[b]? = some (.cells (lv :: .string t.head :: .int .i64 (t.size : Int) :: rest).toArray T (0, 0)) ∧ TapeAt (W3.setCell ⟨b, 0, none⟩ (.slice (some ⟨g, 0, none⟩) (t.recs.length + 1) cap)) b T rest (.slice (some ⟨g, 0, none⟩) (t.recs.length + 1) cap) ⟨t.recs ++ [r], t.head, t.size⟩ := by
  have h3 : W3.heap[b]? = some (.cells (lv :: .string t.head :: .int .i64 (t.size : Int) :: rest).toArray T (0, 0)) := by
    rw [hg.block b (by have := ltOf h.cells; simp; omega) (fun e => h.ne e.symm), allocOld (ltOf h.cells)]; exact h.cells
  refine ⟨h3, ?_, ?_, h.ty, h.hd, by simp; omega, h.sz⟩
  · rw [setOf_ h3]; rfl
  · have hne : (Value.slice (some ⟨g, 0, none⟩) (t.recs.length + 1) cap).ownBlock ≠ some b := by
      intro e
      rcases hown.2 with ⟨e1, _⟩ | ⟨g', cap', cur, e1, _, hg', _⟩
      · cases e1
      · rw [e1] at e; injection e with e; subst e; exact ty_ne h3 hg' h.ty rfl
    have := hown.kept (Lib.grownBy_setCell W3 b 0 (.slice (some ⟨g, 0, none⟩) (t.recs.length + 1) cap)) (.inr hne)
    simpa using this

/-- a record as it is stored -/
def recE (h r : ByteArray) : ByteArray := ⟨#[1]⟩ ++ putS r ++ chainB h r

theorem conv1 {W : World} {g : Nat} (h : W.heap[g]? = some (.cells #[.int .u8 1] 5 (0, 0))) :
    (convert 39 9 (.slice (some ⟨g, 0, none⟩) 1 1)).run Tryz.prog W = .ok (.string ⟨#[1]⟩) W := by
  have h' : W.heap[g]? = some (.cells (bytesV [1]).toArray 5 (0, 0)) := h
  rw [run_conv_row 39 9 5 Tryz.underlying39 Tryz.underlying5 Tryz.underlying9 g 0 1 1 _ _ h' (by decide)]
  rfl
theorem conv1A (W : World) : (convert 39 9 (.slice (some ⟨W.heap.size, 0, none⟩) 1 1)).run Tryz.prog (W.alloc (.cells #[.int .u8 1] 5)) = .ok (.string ⟨#[1]⟩) (W.alloc (.cells #[.int .u8 1] 5)) := conv1 (allocAt _ rfl)
theorem conv1B (W : World) : (convert 39 9 (.slice (some ⟨W.heap.size, 0, none⟩) 1 1)).run Tryz.prog (W.drew.alloc (.cells #[.int .u8 1] 5)) = .ok (.string ⟨#[1]⟩) (W.drew.alloc (.cells #[.int .u8 1] 5)) := conv1 (allocAt _ rfl)
theorem conv1D (W : World) : (convert 39 9 (.slice (some ⟨W.heap.size, 0, none⟩) 1 1)).run Tryz.prog (W.alloc (.cells #[.int .u8 1] 5)).drew = .ok (.string ⟨#[1]⟩) (W.alloc (.cells #[.int .u8 1] 5)).drew := conv1 (by rw [drewHeap]; exact allocAt _ rfl)

set_option maxRecDepth 100000 in
set_option maxHeartbeats 2000000 in
theorem add_any2 {w : World} {b : Nat} {T : TypeId} {rest : List Value} {lv : Value} {t : TV} (h : TapeAt w b T rest lv t) (r : ByteArray) (hr : r.size ≤ 65536) (hl : t.recs.length ≤ 900000) (hz : t.size ≤ 900000000) (hR : RoundLaid w) (hnb : b ≠ 3) :
    Calls Tryz.prog 30 #[.pointer (some ⟨b, 0, none⟩), .string r] w fun e w' => e = .returned (.string (recE t.head r)) ∧ ∃ lv', TapeAt w' b T rest lv' ⟨t.recs ++ [r], chainB t.head r, t.size + (recE t.head r).size⟩ ∧
      Upd (fun k => k = b ∨ lv.ownBlock = some k) w w' ∧ (lv'.ownBlock = lv.ownBlock ∨ ∃ g, lv'.ownBlock = some g ∧ w.heap.size ≤ g) := by
  obtain ⟨i0, hi, hz0, hz1, hz2⟩ := info_parts Tryz.infoStr
  have c1 : w.cell? ⟨b, 1, none⟩ = some (.string t.head) := cellOf h.cells 1
  have CH := Lib.hid (Chain_any t.head r (by rw [h.hd]; omega) w hR)
  have H := Lib.hid h
  clear h hR
  go_enter Tryz.func30, Tryz.ntmps30
  go_wp2_with fail
  refine CH.out.mono ?_
  rintro e w1 ⟨rfl, hB1⟩
  have hc32 : (chainB t.head r).size = 32 := sumB_size _
  have h1 := H.out.below hB1
  have h2 := h1.setHead (chainB t.head r) hc32
  have f1 : w1.frozen? ⟨b, 1, none⟩ = false := frozenOf h1.cells 1
  have H1 := Lib.hid h1
  have H2 := Lib.hid h2
  have HB1 := Lib.hid hB1
  clear h1 h2 hB1 CH
  generalize hC : chainB t.head r = C at *
  have HC := Lib.hid hC
  clear hC
  have d0 : w1.cell? ⟨b, 0, none⟩ = some lv := cellOf H1.out.cells 0
  have d1 : w1.cell? ⟨b, 1, none⟩ = some (.string t.head) := cellOf H1.out.cells 1
  have hlw := ltOf H.out.cells
  have hB1s := HB1.out.size
  have PS := Lib.hid (fun W => PutString_any r hr W)
  go_wp2_with (first
    | (at_builtin; refine wpList_append_lies _ rfl (.tmp 21) (.tmp 23) 22 rfl 0 9 i0 _ 1 16 Tryz.underlying22 hi hz0 hz1 hz2 rfl (by decide) lv t.recs.length _ rfl (H2.out.row.alloc _) ⟨w1.heap.size, 0, none⟩ 1 1 [.string r] rfl rfl (by have := cell_one_new (w1.setCell ⟨b, 1, none⟩ (.string C)) (.string r) 9; simpa using this) (by simp [Value.oneCell']) (by omega) (by simp only [maxLen]; omega) (by omega) (Nat.zero_le _) (w1.heap.size + 1) (by simp) ?_
       intro g cap w3 hown hgr hat hlt
       obtain ⟨h3, h4⟩ := H2.out.pushed r hl hown hgr
       have HGR := Lib.hid hgr
       have HAT := Lib.hid hat
       have HLT := Lib.hid hlt
       have e0 : w3.cell? ⟨b, 0, none⟩ = some lv := cellOf h3 0
       have g0 : w3.frozen? ⟨b, 0, none⟩ = false := frozenOf h3 0
       have H4 := Lib.hid h4
       clear hgr hat hlt h3 h4 hown)
    | fail)
  have hne : lv.ownBlock ≠ some b := H.out.ne
  have hlv : ∀ k, lv.ownBlock = some k → k < w.heap.size := fun k e => (H.out.row.lt k e).2
  have U4 : Hid (Upd (fun k => k = b ∨ lv.ownBlock = some k) w (w3.setCell ⟨b, 0, none⟩ (.slice (some ⟨g, 0, none⟩) (t.recs.length + 1) cap))) := Lib.hid
    (((((Upd.of_below (S := fun k => k = b ∨ lv.ownBlock = some k) HB1.out).setCell ⟨b, 1, none⟩ (.string C) (.inl (.inl rfl))).alloc _).grown HGR.out (fun k e => .inl (.inr e))).setCell ⟨b, 0, none⟩ _ (.inl (.inl rfl)))
  have HG : Hid (lv.ownBlock = some g ∨ w.heap.size ≤ g) := Lib.hid (HAT.out.imp id (fun e => by omega))
  clear e0 g0 HGR HAT HLT d0 d1 f1 H1 H2 HB1 hlv
  obtain ⟨lv', hlv'⟩ : ∃ lv', (Value.slice (some ⟨g, 0, none⟩) (t.recs.length + 1) cap) = lv' := ⟨_, rfl⟩
  have HO : Hid (lv'.ownBlock = some g) := Lib.hid (by rw [← hlv']; rfl)
  rw [hlv'] at H4 U4 ⊢
  clear hlv'
  generalize w3.setCell ⟨b, 0, none⟩ lv' = W4 at *
  refine (PS.out W4).mono ?_
  rintro e W5 ⟨rfl, hB5⟩
  have H5 := Lib.hid (H4.out.below hB5)
  have U5 := Lib.hid (U4.out.trans (Upd.of_below hB5 (S := fun _ => False)) (fun _ _ h => h.elim))
  clear hB5 H4 U4 PS
  have e1 : W5.cell? ⟨b, 1, none⟩ = some (.string C) := cellOf H5.out.cells 1
  have e2 : W5.cell? ⟨b, 2, none⟩ = some (.int .i64 (t.size : Int)) := cellOf H5.out.cells 2
  have g2 : W5.frozen? ⟨b, 2, none⟩ = false := frozenOf H5.out.cells 2
  have hps : (putS r).size ≤ 100000 := by have := intS_size r.size; rw [putS, ByteArray.size_append]; omega
  have HPS : Hid (recE t.head r = ⟨#[1]⟩ ++ putS r ++ C) := Lib.hid (by rw [recE, HC.out])
  have hlw5 : b < W5.heap.size := by have := U5.out.size; omega
  clear c1
  generalize putS r = p at *
  go_wp2
  have hcA := conv1A
  have hcB := conv1B
  have hcD := conv1D
  go_region_held (fun w' => w'.cell? ⟨b, 1, none⟩ = some (.string C)) ((first | exact e1 | go_keep)) (fail)
  all_goals
    clear hcA hcB hcD
    have hos : ((⟨#[1]⟩ ++ p ++ C : ByteArray)).size ≤ 200000 := by
      rw [ByteArray.size_append, ByteArray.size_append, hc32]; have : (⟨#[1]⟩ : ByteArray).size = 1 := rfl; omega
    have U6 : Hid (Upd (fun k => k = b ∨ lv.ownBlock = some k) w (W5.alloc (.cells #[.int .u8 1] 5)).drew) := Lib.hid (U5.out.alloc _).drew
    have H6 : Hid (TapeAt (W5.alloc (.cells #[.int .u8 1] 5)).drew b T rest lv' ⟨t.recs ++ [r], C, t.size⟩) := Lib.hid (H5.out.below ((Below.refl _ W5).alloc (Nat.le_refl _) _).drew)
    clear e1 e2 g2 H5 U5
    generalize (W5.alloc (.cells #[.int .u8 1] 5)).drew = W6 at *
    rw [← HPS.out] at hos ⊢
    clear HPS hps
    generalize hOut : recE t.head r = out at *
    have HOUT := Lib.hid hOut
    clear hOut
    have e2 : W6.cell? ⟨b, 2, none⟩ = some (.int .i64 (t.size : Int)) := cellOf H6.out.cells 2
    have g2 : W6.frozen? ⟨b, 2, none⟩ = false := frozenOf H6.out.cells 2
    go_wp2
    go_ret
    refine ⟨by rw [HOUT.out]; rfl, lv', ?_, U6.out.setCell _ _ (.inl (.inl rfl)), ?_⟩
    · have := H6.out.setSize (t.size + out.size) (by omega)
      rw [HC.out, HOUT.out]
      simpa using this
    · rcases HG.out with h | h
      · exact .inl (by rw [HO.out, h])
      · exact .inr ⟨g, HO.out, h⟩
end Go.Proofs.YthlmgookaljgnaaGreatDoor
namespace Go.Proofs.YthlmgookaljgnaaGreatDoor
open Go.RowKit Go.Extern.Stop Go.Stop Go.Extern
set_option linter.unusedVariables false

theorem Tryz.isTypeOf (v : Value) (w : World) : (Extern.ReflectliteType.typeOf #[.iface 218 v]).run Tryz.prog w = .ok (.iface 165 (.agg #[.pointer (some ⟨5, 218, none⟩)])) w := by kernel_rfl
theorem Tryz.isComparable (w : World) : ((Extern.ReflectliteType.method fun t => do Rtype.noPackHeld "Comparable" t; pure (.bool (← typeInfo t).comparable)) #[.agg #[.pointer (some ⟨5, 218, none⟩)]]).run Tryz.prog w = .ok (.bool true) w := by kernel_rfl
theorem Tryz.callTypeOf (v : Value) (w : World) : (callFunc 88 #[.iface 218 v]).run Tryz.prog w = .ok (.value (.iface 165 (.agg #[.pointer (some ⟨5, 218, none⟩)]))) w := by
  rw [@run_callFunc_extern Tryz.prog 88 _ Extern.ReflectliteType.typeOf Tryz.func88 (by kernel_rfl) (by kernel_rfl) (by kernel_rfl) (by kernel_rfl), Tryz.isTypeOf]; rfl
theorem Tryz.callComparable (w : World) : (callFunc 166 #[.agg #[.pointer (some ⟨5, 218, none⟩)]]).run Tryz.prog w = .ok (.value (.bool true)) w := by
  rw [@run_callFunc_extern Tryz.prog 166 _ (Extern.ReflectliteType.method fun t => do Rtype.noPackHeld "Comparable" t; pure (.bool (← typeInfo t).comparable)) Tryz.func166 (by kernel_rfl) (by kernel_rfl) (by kernel_rfl) (by kernel_rfl), Tryz.isComparable]; rfl
theorem Tryz.isComp : (Tryz.prog.info? 218).map (·.comparable) = some true := by kernel_rfl
theorem Tryz.isSize : (Tryz.prog.info? 240).map (·.size) = some 1 := by kernel_rfl

/-- errors.Is(x, x), x a pointer to an errors.errorString. -/
theorem is_same (a : Addr) (w : World) :
    Calls Tryz.prog 69 #[.iface 218 (.pointer (some a)), .iface 218 (.pointer (some a))] w fun e w' => e = .returned (.bool true) ∧ w = w' := by
  obtain ⟨i, hi, hcmp⟩ := Option.map_eq_some_iff.1 Tryz.isComp
  obtain ⟨j, hj, hjs⟩ := Option.map_eq_some_iff.1 Tryz.isSize
  have tT := Tryz.callTypeOf
  have cT := Tryz.callComparable
  have heq := run_eql_iface_ptr_same (P := Tryz.prog) w a Tryz.underlying73 Tryz.underlying218 hi hcmp hj
  go_enter Tryz.func69, Tryz.ntmps69
  go_wp2
  refine wp_loop_rounds 1 ?_
  rw [rounds_succ]
  go_wp2
  go_ret
  exact ⟨rfl, rfl⟩
end Go.Proofs.YthlmgookaljgnaaGreatDoor
