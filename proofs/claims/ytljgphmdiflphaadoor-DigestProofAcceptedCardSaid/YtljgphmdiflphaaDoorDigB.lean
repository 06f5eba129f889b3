import Derived.Test.YtljgphmdiflphaaDoorDig
/- Plain facts on proofs and extensions of trees of digests. -/
namespace Dig
section
variable {α D : Type} (leaf : α → D) (node : D → D → D) (emp : D)

/-- the proof of an entry, the root's sibling first -/
def prfF : Nat → List α → Nat → List D
  | 0, _, _ => []
  | f + 1, l, i => if l.length ≤ 1 then [] else
    if i < lft l.length then root leaf node emp (l.drop (lft l.length)) :: prfF f (l.take (lft l.length)) i
    else root leaf node emp (l.take (lft l.length)) :: prfF f (l.drop (lft l.length)) (i - lft l.length)
def prf (l : List α) (i : Nat) : List D := prfF leaf node emp l.length l i

theorem prfF_fuel : ∀ (f g : Nat) (l : List α) (i : Nat), l.length ≤ f → l.length ≤ g → prfF leaf node emp f l i = prfF leaf node emp g l i := by
  intro f
  induction f with
  | zero =>
    intro g l i h1 h2
    cases g with
    | zero => rfl
    | succ g => rw [prfF, prfF, if_pos (by omega)]
  | succ f ih =>
    intro g l i h1 h2
    cases g with
    | zero => rw [prfF, prfF, if_pos (by omega)]
    | succ g =>
      rw [prfF, prfF]
      by_cases h : l.length ≤ 1
      · rw [if_pos h, if_pos h]
      · rw [if_neg h, if_neg h]
        have h3 := lft_lt (n := l.length) (by omega)
        have h4 := lft_pos l.length
        rw [ih g _ _ (by rw [List.length_take]; omega) (by rw [List.length_take]; omega), ih g _ _ (by rw [List.length_drop]; omega) (by rw [List.length_drop]; omega)]
theorem prf_one (l : List α) (i : Nat) (h : l.length ≤ 1) : prf leaf node emp l i = [] := by
  unfold prf
  cases hl : l.length with
  | zero => rfl
  | succ n => rw [prfF, if_pos h]
theorem prf_two (l : List α) (i : Nat) (h : 2 ≤ l.length) : prf leaf node emp l i =
    if i < lft l.length then root leaf node emp (l.drop (lft l.length)) :: prf leaf node emp (l.take (lft l.length)) i
    else root leaf node emp (l.take (lft l.length)) :: prf leaf node emp (l.drop (lft l.length)) (i - lft l.length) := by
  obtain ⟨n, hn⟩ : ∃ n, l.length = n + 1 := ⟨l.length - 1, by omega⟩
  have h3 := lft_lt (n := l.length) h
  have h4 := lft_pos l.length
  conv => lhs; unfold prf
  rw [hn, prfF, if_neg (by omega)]
  unfold prf
  rw [← hn]
  rw [prfF_fuel leaf node emp n (l.take (lft l.length)).length _ _ (by rw [List.length_take]; omega) (Nat.le_refl _), prfF_fuel leaf node emp n (l.drop (lft l.length)).length _ _ (by rw [List.length_drop]; omega) (Nat.le_refl _)]

/-- the way from the root to an entry: the sides, and what is left of the proof -/
def wayF : Nat → Nat → Nat → List D → Option (List (D × Bool) × List D)
  | 0, _, _, t => some ([], t)
  | f + 1, n, i, t => if n ≤ 1 then some ([], t) else
    match t with
    | [] => none
    | x :: t => if i < lft n then (wayF f (lft n) i t).map fun r => ((x, false) :: r.1, r.2)
      else (wayF f (n - lft n) (i - lft n) t).map fun r => ((x, true) :: r.1, r.2)
theorem wayF_zero (n i : Nat) (t : List D) : wayF 0 n i t = some ([], t) := rfl
theorem wayF_succ (f n i : Nat) (t : List D) : wayF (f + 1) n i t = if n ≤ 1 then some ([], t) else
    match t with
    | [] => none
    | x :: t => if i < lft n then (wayF f (lft n) i t).map fun r => ((x, false) :: r.1, r.2)
      else (wayF f (n - lft n) (i - lft n) t).map fun r => ((x, true) :: r.1, r.2) := by cases t <;> rfl
def way (n i : Nat) (t : List D) : Option (List (D × Bool) × List D) := wayF n n i t
theorem wayF_fuel : ∀ (f g n i : Nat) (t : List D), n ≤ f → n ≤ g → wayF f n i t = wayF g n i t := by
  intro f
  induction f with
  | zero =>
    intro g n i t h1 h2
    cases g with
    | zero => rfl
    | succ g => rw [wayF_zero, wayF_succ, if_pos (by omega)]
  | succ f ih =>
    intro g n i t h1 h2
    cases g with
    | zero => rw [wayF_succ, wayF_zero, if_pos (by omega)]
    | succ g =>
      rw [wayF_succ, wayF_succ]
      by_cases h : n ≤ 1
      · rw [if_pos h, if_pos h]
      · rw [if_neg h, if_neg h]
        have h3 := lft_lt (n := n) (by omega)
        have h4 := lft_pos n
        cases t with
        | nil => rfl
        | cons x t => simp only; rw [ih g _ _ _ (by omega) (by omega), ih g _ _ _ (by omega) (by omega)]
theorem way_one (n i : Nat) (t : List D) (h : n ≤ 1) : way n i t = some ([], t) := by
  unfold way
  cases n with
  | zero => rfl
  | succ n => rw [wayF_succ, if_pos h]
theorem way_nil (n i : Nat) (h : 2 ≤ n) : way (D := D) n i [] = none := by
  unfold way
  cases n with
  | zero => omega
  | succ n => rw [wayF_succ, if_neg (by omega)]
theorem way_cons (n i : Nat) (x : D) (t : List D) (h : 2 ≤ n) : way n i (x :: t) =
    if i < lft n then (way (lft n) i t).map fun r => ((x, false) :: r.1, r.2) else (way (n - lft n) (i - lft n) t).map fun r => ((x, true) :: r.1, r.2) := by
  have h3 := lft_lt (n := n) h
  have h4 := lft_pos n
  obtain ⟨m, rfl⟩ : ∃ m, n = m + 1 := ⟨n - 1, by omega⟩
  conv => lhs; unfold way
  rw [wayF_succ, if_neg (by omega)]
  simp only
  unfold way
  rw [wayF_fuel m (lft (m + 1)) _ _ _ (by omega) (Nat.le_refl _), wayF_fuel m (m + 1 - lft (m + 1)) _ _ _ (by omega) (Nat.le_refl _)]

/-- the value of a way -/
def join (s : D × Bool) (out : D) : D := if s.2 then node s.1 out else node out s.1
def value (v : D) (ws : List (D × Bool)) : D := ws.foldr (join node) v
theorem value_cons (v : D) (s : D × Bool) (ws : List (D × Bool)) : value node v (s :: ws) = join node s (value node v ws) := rfl

theorem way_prf : ∀ (n : Nat) (l : List α) (i : Nat) (h : i < l.length), l.length = n → ∃ ws, way n i (prf leaf node emp l i) = some (ws, []) ∧ value node (leaf l[i]) ws = root leaf node emp l := by
  intro n
  induction n using Nat.strongRecOn with
  | ind n ih =>
    intro l i hi hn
    by_cases h1 : l.length ≤ 1
    · rw [prf_one leaf node emp l i h1, way_one n i _ (by omega)]
      refine ⟨[], rfl, ?_⟩
      match l, h1, hi with
      | [x], _, hi =>
        obtain rfl : i = 0 := by simpa using hi
        rfl
    · have h3 := lft_lt (n := l.length) (by omega)
      have h4 := lft_pos l.length
      rw [prf_two leaf node emp l i (by omega), root_two leaf node emp l (by omega)]
      subst hn
      by_cases hlt : i < lft l.length
      · rw [if_pos hlt, way_cons _ _ _ _ (by omega), if_pos hlt]
        have hl : (l.take (lft l.length)).length = lft l.length := by rw [List.length_take]; omega
        obtain ⟨ws, h5, h6⟩ := ih (lft l.length) h3 (l.take (lft l.length)) i (by omega) hl
        rw [h5]
        refine ⟨_, rfl, ?_⟩
        rw [value_cons]
        have e : (l.take (lft l.length))[i]'(by omega) = l[i] := List.getElem_take
        rw [e] at h6
        simp only [h6]; rfl
      · rw [if_neg hlt, way_cons _ _ _ _ (by omega), if_neg hlt]
        have hl : (l.drop (lft l.length)).length = l.length - lft l.length := by rw [List.length_drop]
        obtain ⟨ws, h5, h6⟩ := ih (l.length - lft l.length) (by omega) (l.drop (lft l.length)) (i - lft l.length) (by omega) hl
        rw [h5]
        refine ⟨_, rfl, ?_⟩
        rw [value_cons]
        have e : (l.drop (lft l.length))[i - lft l.length]'(by omega) = l[i] := by
          rw [List.getElem_drop]; congr 1; omega
        rw [e] at h6
        simp only [h6]; rfl

/-- how long a way is -/
def depF : Nat → Nat → Nat → Nat
  | 0, _, _ => 0
  | f + 1, n, i => if n ≤ 1 then 0 else 1 + if i < lft n then depF f (lft n) i else depF f (n - lft n) (i - lft n)
theorem way_length : ∀ (f n i : Nat) (t : List D), (wayF f n i t).map (fun r => r.1.length + r.2.length) = if depF f n i ≤ t.length then some t.length else none := by
  intro f
  induction f with
  | zero => intro n i t; simp [wayF, depF]
  | succ f ih =>
    intro n i t
    rw [wayF_succ, depF]
    by_cases h : n ≤ 1
    · rw [if_pos h, if_pos h]; simp
    · rw [if_neg h, if_neg h]
      cases t with
      | nil => rw [if_neg (by simp)]; rfl
      | cons x t =>
        simp only
        by_cases hi : i < lft n
        · rw [if_pos hi, if_pos hi, Option.map_map]
          have := ih (lft n) i t
          cases hw : wayF f (lft n) i t with
          | none => rw [hw] at this; simp only [Option.map_none] at this ⊢
                    split at this
                    · cases this
                    · rw [if_neg (by simp; omega)]
          | some r => rw [hw] at this; simp only [Option.map_some] at this ⊢
                      split at this
                      · rename_i hd
                        injection this with this
                        rw [if_pos (by simp; omega)]
                        simp; omega
                      · cases this
        · rw [if_neg hi, if_neg hi, Option.map_map]
          have := ih (n - lft n) (i - lft n) t
          cases hw : wayF f (n - lft n) (i - lft n) t with
          | none => rw [hw] at this; simp only [Option.map_none] at this ⊢
                    split at this
                    · cases this
                    · rw [if_neg (by simp; omega)]
          | some r => rw [hw] at this; simp only [Option.map_some] at this ⊢
                      split at this
                      · rename_i hd
                        injection this with this
                        rw [if_pos (by simp; omega)]
                        simp; omega
                      · cases this
theorem way_sides : ∀ (f n i : Nat) (t : List D) (ws : List (D × Bool)) (r : List D), wayF f n i t = some (ws, r) → ws.length = depF f n i := by
  intro f
  induction f with
  | zero => intro n i t ws r h; simp only [wayF, Option.some.injEq, Prod.mk.injEq] at h; rw [← h.1]; rfl
  | succ f ih =>
    intro n i t ws r h
    rw [wayF_succ] at h
    rw [depF]
    by_cases h1 : n ≤ 1
    · rw [if_pos h1] at h ⊢
      simp only [Option.some.injEq, Prod.mk.injEq] at h; rw [← h.1]; rfl
    · rw [if_neg h1] at h ⊢
      cases t with
      | nil => cases h
      | cons x t =>
        simp only at h
        by_cases hi : i < lft n
        · rw [if_pos hi] at h ⊢
          obtain ⟨⟨ws', r'⟩, h2, h3⟩ := Option.map_eq_some_iff.1 h
          simp only [Prod.mk.injEq] at h3
          rw [← h3.1, List.length_cons, ih _ _ _ _ _ h2]; omega
        · rw [if_neg hi] at h ⊢
          obtain ⟨⟨ws', r'⟩, h2, h3⟩ := Option.map_eq_some_iff.1 h
          simp only [Prod.mk.injEq] at h3
          rw [← h3.1, List.length_cons, ih _ _ _ _ _ h2]; omega

/-! ### Extensions -/
/-- the proof that a list begins with m entries, the root's sibling first -/
def extF : Nat → List α → Nat → Bool → List D
  | 0, _, _, _ => []
  | f + 1, l, m, w => if m < l.length then
      if m ≤ lft l.length then root leaf node emp (l.drop (lft l.length)) :: extF f (l.take (lft l.length)) m w
      else root leaf node emp (l.take (lft l.length)) :: extF f (l.drop (lft l.length)) (m - lft l.length) false
    else if w then [] else [root leaf node emp l]
def ext (l : List α) (m : Nat) (w : Bool) : List D := extF leaf node emp (l.length + 1) l m w
theorem extF_fuel : ∀ (f g : Nat) (l : List α) (m : Nat) (w : Bool), 1 ≤ m → l.length < f → l.length < g → extF leaf node emp f l m w = extF leaf node emp g l m w := by
  intro f
  induction f with
  | zero => intro g l m w _ h1 h2; omega
  | succ f ih =>
    intro g l m w hm h1 h2
    cases g with
    | zero => omega
    | succ g =>
      rw [extF, extF]
      by_cases h : m < l.length
      · rw [if_pos h, if_pos h]
        have h3 := lft_lt (n := l.length) (by omega)
        have h4 := lft_pos l.length
        by_cases hk : m ≤ lft l.length
        · rw [if_pos hk, if_pos hk, ih g _ _ _ hm (by rw [List.length_take]; omega) (by rw [List.length_take]; omega)]
        · rw [if_neg hk, if_neg hk, ih g _ _ _ (by omega) (by rw [List.length_drop]; omega) (by rw [List.length_drop]; omega)]
      · rw [if_neg h, if_neg h]
theorem ext_end (l : List α) (m : Nat) (w : Bool) (h : l.length ≤ m) : ext leaf node emp l m w = if w then [] else [root leaf node emp l] := by
  unfold ext; rw [extF, if_neg (by omega)]
theorem ext_step (l : List α) (m : Nat) (w : Bool) (h1 : 1 ≤ m) (h : m < l.length) : ext leaf node emp l m w =
    if m ≤ lft l.length then root leaf node emp (l.drop (lft l.length)) :: ext leaf node emp (l.take (lft l.length)) m w
    else root leaf node emp (l.take (lft l.length)) :: ext leaf node emp (l.drop (lft l.length)) (m - lft l.length) false := by
  have h3 := lft_lt (n := l.length) (by omega)
  have h4 := lft_pos l.length
  conv => lhs; unfold ext
  rw [extF, if_pos h]
  unfold ext
  by_cases hk : m ≤ lft l.length
  · rw [if_pos hk, if_pos hk, extF_fuel leaf node emp l.length ((l.take (lft l.length)).length + 1) _ _ _ h1 (by rw [List.length_take]; omega) (by omega)]
  · rw [if_neg hk, if_neg hk, extF_fuel leaf node emp l.length ((l.drop (lft l.length)).length + 1) _ _ _ (by omega) (by rw [List.length_drop]; omega) (by omega)]

/-- the way from the root down to the end of m entries: the sides, what is left of the proof, and whether the part is whole -/
def wayEF : Nat → Nat → Nat → List D → Bool → Option (List (D × Bool) × List D × Bool)
  | 0, _, _, t, w => some ([], t, w)
  | f + 1, n, m, t, w => if m < n then
    match t with
    | [] => none
    | x :: t => if m ≤ lft n then (wayEF f (lft n) m t w).map fun r => ((x, false) :: r.1, r.2)
      else (wayEF f (n - lft n) (m - lft n) t false).map fun r => ((x, true) :: r.1, r.2)
    else some ([], t, w)
theorem wayEF_zero (n m : Nat) (t : List D) (w : Bool) : wayEF 0 n m t w = some ([], t, w) := rfl
theorem wayEF_succ (f n m : Nat) (t : List D) (w : Bool) : wayEF (f + 1) n m t w = if m < n then
    match t with
    | [] => none
    | x :: t => if m ≤ lft n then (wayEF f (lft n) m t w).map fun r => ((x, false) :: r.1, r.2)
      else (wayEF f (n - lft n) (m - lft n) t false).map fun r => ((x, true) :: r.1, r.2)
    else some ([], t, w) := by cases t <;> rfl
def wayE (n m : Nat) (t : List D) (w : Bool) : Option (List (D × Bool) × List D × Bool) := wayEF n n m t w
theorem wayEF_fuel : ∀ (f g n m : Nat) (t : List D) (w : Bool), 1 ≤ m → n ≤ f → n ≤ g → wayEF f n m t w = wayEF g n m t w := by
  intro f
  induction f with
  | zero =>
    intro g n m t w hm h1 h2
    cases g with
    | zero => rfl
    | succ g => rw [wayEF_zero, wayEF_succ, if_neg (by omega)]
  | succ f ih =>
    intro g n m t w hm h1 h2
    cases g with
    | zero => rw [wayEF_succ, wayEF_zero, if_neg (by omega)]
    | succ g =>
      rw [wayEF_succ, wayEF_succ]
      by_cases h : m < n
      · rw [if_pos h, if_pos h]
        have h3 := lft_lt (n := n) (by omega)
        have h4 := lft_pos n
        cases t with
        | nil => rfl
        | cons x t =>
          simp only
          by_cases hk : m ≤ lft n
          · rw [if_pos hk, if_pos hk, ih g _ _ _ _ hm (by omega) (by omega)]
          · rw [if_neg hk, if_neg hk, ih g _ _ _ _ (by omega) (by omega) (by omega)]
      · rw [if_neg h, if_neg h]
theorem wayE_end (n m : Nat) (t : List D) (w : Bool) (h : n ≤ m) : wayE n m t w = some ([], t, w) := by
  unfold wayE
  cases n with
  | zero => rfl
  | succ n => rw [wayEF_succ, if_neg (by omega)]
theorem wayE_nil (n m : Nat) (w : Bool) (h : m < n) : wayE (D := D) n m [] w = none := by
  unfold wayE
  cases n with
  | zero => omega
  | succ n => rw [wayEF_succ, if_pos (by omega)]
theorem wayE_cons (n m : Nat) (x : D) (t : List D) (w : Bool) (h1 : 1 ≤ m) (h : m < n) : wayE n m (x :: t) w =
    if m ≤ lft n then (wayE (lft n) m t w).map fun r => ((x, false) :: r.1, r.2) else (wayE (n - lft n) (m - lft n) t false).map fun r => ((x, true) :: r.1, r.2) := by
  have h3 := lft_lt (n := n) (by omega)
  have h4 := lft_pos n
  obtain ⟨k, rfl⟩ : ∃ k, n = k + 1 := ⟨n - 1, by omega⟩
  conv => lhs; unfold wayE
  rw [wayEF_succ, if_pos h]
  simp only
  unfold wayE
  by_cases hk : m ≤ lft (k + 1)
  · rw [if_pos hk, if_pos hk, wayEF_fuel k (lft (k + 1)) _ _ _ _ h1 (by omega) (Nat.le_refl _)]
  · rw [if_neg hk, if_neg hk, wayEF_fuel k (k + 1 - lft (k + 1)) _ _ _ _ (by omega) (by omega) (Nat.le_refl _)]

/-- the two values of a way -/
def first (v : D) (ws : List (D × Bool)) : D := ws.foldr (fun s o => if s.2 then join node s o else o) v
theorem first_cons (v : D) (s : D × Bool) (ws : List (D × Bool)) : first node v (s :: ws) = if s.2 then join node s (first node v ws) else first node v ws := rfl

end
end Dig
