/- Plain facts on trees of digests: the root of a list by a stack of complete parts, proofs and extensions. No program in sight. -/
namespace Dig

/-- the greatest power of two that is less than n, for n at least 2 -/
def lft (n : Nat) : Nat := 2 ^ Nat.log2 (n - 1)

theorem lft_pos (n : Nat) : 0 < lft n := Nat.two_pow_pos _
theorem lft_lt {n : Nat} (h : 2 ≤ n) : lft n < n := by
  have := Nat.log2_self_le (n := n - 1) (by omega)
  unfold lft; omega
theorem lft_ge {n : Nat} (h : 2 ≤ n) : n ≤ 2 * lft n := by
  have := Nat.lt_log2_self (n := n - 1)
  unfold lft; rw [Nat.pow_succ] at this; omega
/-- what marks it out -/
theorem lft_unique {n j : Nat} (h1 : 2 ^ j < n) (h2 : n ≤ 2 * 2 ^ j) : lft n = 2 ^ j := by
  unfold lft
  congr 1
  apply (Nat.log2_eq_iff (by have := Nat.two_pow_pos j; omega)).2
  rw [Nat.pow_succ]
  omega

section
variable {α D : Type} (leaf : α → D) (node : D → D → D) (emp : D)

def rootF : Nat → List α → D
  | 0, _ => emp
  | _ + 1, [] => emp
  | _ + 1, [x] => leaf x
  | k + 1, x :: y :: l => node (rootF k ((x :: y :: l).take (lft (l.length + 2)))) (rootF k ((x :: y :: l).drop (lft (l.length + 2))))
def root (l : List α) : D := rootF leaf node emp l.length l

theorem rootF_fuel : ∀ (k : Nat) (l : List α), l.length ≤ k → rootF leaf node emp k l = root leaf node emp l := by
  intro k
  induction k using Nat.strongRecOn with
  | ind k ih =>
    intro l hl
    match k, l, hl with
    | 0, [], _ => rfl
    | k + 1, [], _ => rfl
    | k + 1, [x], _ => rfl
    | k + 1, x :: y :: l, hl =>
      have h1 := lft_lt (n := l.length + 2) (by omega)
      have h2 := lft_pos (l.length + 2)
      simp only [List.length_cons] at hl
      show node _ _ = node _ _
      have e1 : ∀ j, l.length + 1 ≤ j → j < k + 1 → rootF leaf node emp j ((x :: y :: l).take (lft (l.length + 2))) = root leaf node emp ((x :: y :: l).take (lft (l.length + 2))) := fun j h h' =>
        ih j h' _ (by simp only [List.length_take, List.length_cons]; omega)
      have e2 : ∀ j, l.length + 1 ≤ j → j < k + 1 → rootF leaf node emp j ((x :: y :: l).drop (lft (l.length + 2))) = root leaf node emp ((x :: y :: l).drop (lft (l.length + 2))) := fun j h h' =>
        ih j h' _ (by simp only [List.length_drop, List.length_cons]; omega)
      rw [e1 k (by omega) (by omega), e2 k (by omega) (by omega)]
      show _ = node (rootF leaf node emp (l.length + 1) _) (rootF leaf node emp (l.length + 1) _)
      rw [e1 (l.length + 1) (by omega) (by omega), e2 (l.length + 1) (by omega) (by omega)]

theorem root_nil : root leaf node emp [] = emp := rfl
theorem root_one (x : α) : root leaf node emp [x] = leaf x := rfl
theorem root_two (l : List α) (h : 2 ≤ l.length) :
    root leaf node emp l = node (root leaf node emp (l.take (lft l.length))) (root leaf node emp (l.drop (lft l.length))) := by
  match l, h with
  | x :: y :: l, _ =>
    have h1 := lft_lt (n := l.length + 2) (by omega)
    have h2 := lft_pos (l.length + 2)
    show node _ _ = node _ _
    rw [rootF_fuel, rootF_fuel]
    · rfl
    · simp only [List.length_drop, List.length_cons]; omega
    · simp only [List.length_take, List.length_cons]; omega

/-! ### The stack -/
/-- the complete parts of a list, the largest first, each with its size -/
def stkF : Nat → List α → List (D × Nat)
  | 0, _ => []
  | k + 1, l => if l.length = 0 then [] else
      (root leaf node emp (l.take (2 ^ Nat.log2 l.length)), 2 ^ Nat.log2 l.length) :: stkF k (l.drop (2 ^ Nat.log2 l.length))
def stk (l : List α) : List (D × Nat) := stkF leaf node emp l.length l

theorem stkF_fuel : ∀ (k : Nat) (l : List α), l.length ≤ k → stkF leaf node emp k l = stk leaf node emp l := by
  intro k
  induction k using Nat.strongRecOn with
  | ind k ih =>
    intro l hl
    match k, hl with
    | 0, hl => have : l = [] := List.eq_nil_of_length_eq_zero (by omega)
               subst this; rfl
    | k + 1, hl =>
      by_cases h0 : l.length = 0
      · have : l = [] := List.eq_nil_of_length_eq_zero h0
        subst this; rfl
      · obtain ⟨m, hm⟩ : ∃ m, l.length = m + 1 := ⟨l.length - 1, by omega⟩
        have hp := Nat.two_pow_pos (Nat.log2 l.length)
        have e : ∀ j, m ≤ j → j < k + 1 → stkF leaf node emp j (l.drop (2 ^ Nat.log2 l.length)) = stk leaf node emp (l.drop (2 ^ Nat.log2 l.length)) := fun j h h' =>
          ih j h' _ (by rw [List.length_drop]; omega)
        unfold stk
        rw [hm]
        simp only [stkF, if_neg h0]
        rw [e k (by omega) (by omega), e m (by omega) (by omega)]

theorem stk_nil : stk leaf node emp [] = [] := rfl
theorem stk_cons (l : List α) (h : l ≠ []) : stk leaf node emp l =
    (root leaf node emp (l.take (2 ^ Nat.log2 l.length)), 2 ^ Nat.log2 l.length) :: stk leaf node emp (l.drop (2 ^ Nat.log2 l.length)) := by
  have h0 : l.length ≠ 0 := fun e => h (List.eq_nil_of_length_eq_zero e)
  obtain ⟨m, hm⟩ : ∃ m, l.length = m + 1 := ⟨l.length - 1, by omega⟩
  have hp := Nat.two_pow_pos (Nat.log2 l.length)
  conv => lhs; unfold stk
  rw [hm]
  simp only [stkF, if_neg h0]
  rw [stkF_fuel _ _ _ _ _ (by rw [List.length_drop]; omega), hm]

/-- the sum of the nodes from the right -/
def foldR : List (D × Nat) → D
  | [] => emp
  | [(r, _)] => r
  | (r, _) :: x :: l => node r (foldR (x :: l))

theorem foldR_stk : ∀ (n : Nat) (l : List α), l.length = n → foldR node emp (stk leaf node emp l) = root leaf node emp l := by
  intro n
  induction n using Nat.strongRecOn with
  | ind n ih =>
    intro l hl
    by_cases hn : l = []
    · subst hn; rfl
    have h0 : l.length ≠ 0 := fun e => hn (List.eq_nil_of_length_eq_zero e)
    rw [stk_cons leaf node emp l hn]
    have hp := Nat.two_pow_pos (Nat.log2 l.length)
    have h1 := Nat.log2_self_le h0
    have h2 := Nat.lt_log2_self (n := l.length)
    rw [Nat.pow_succ] at h2
    by_cases he : 2 ^ Nat.log2 l.length = l.length
    · rw [he, List.drop_length, List.take_length, stk_nil]; rfl
    · have hd : l.drop (2 ^ Nat.log2 l.length) ≠ [] := by
        intro e; have := congrArg List.length e; rw [List.length_drop] at this; simp at this; omega
      have hi := ih (l.drop (2 ^ Nat.log2 l.length)).length (by rw [List.length_drop]; omega) _ rfl
      have h3 : 2 ≤ l.length := by
        rcases Nat.lt_or_ge l.length 2 with h | h
        · exfalso
          have : l.length = 1 := by omega
          rw [this] at he; exact he (by decide)
        · exact h
      have hlf : lft l.length = 2 ^ Nat.log2 l.length := lft_unique (by omega) (by omega)
      rw [root_two leaf node emp l h3, hlf, ← hi]
      rw [stk_cons leaf node emp _ hd]
      rfl

/-- merging at the end of the stack: the last two parts of one size become one, again and again (k bounds the rounds) -/
def mergeF : Nat → List (D × Nat) → List (D × Nat)
  | 0, s => s
  | k + 1, s => match s.reverse with
    | (b, m) :: (a, n) :: r => if n = m then mergeF k (r.reverse ++ [(node a b, 2 * m)]) else s
    | _ => s

/-- what merging does, as a relation -/
inductive Merges : List (D × Nat) → List (D × Nat) → Prop
  | stop {s} (h : ∀ p a b m, s ≠ p ++ [(a, m), (b, m)]) : Merges s s
  | step {p a b m s'} (h : Merges (p ++ [(node a b, 2 * m)]) s') : Merges (p ++ [(a, m), (b, m)]) s'

theorem Merges.front (x : D × Nat) : ∀ {s s' : List (D × Nat)}, Merges node s s' → (∀ a m r, s' = (a, m) :: r → r = [] → x.2 ≠ m) → s' ≠ [] → Merges node (x :: s) (x :: s') := by
  intro s s' h
  induction h with
  | stop h =>
    intro hx hne
    refine .stop fun p a b m e => ?_
    match p with
    | [] =>
      injection e with e1 e2
      rename_i s
      exact hx b m [] e2 rfl (by rw [e1])
    | y :: p =>
      injection e with e1 e2
      exact h p a b m e2
  | step _ ih => intro hx hne; exact .step (p := x :: _) (ih hx hne)

theorem stk_sizes : ∀ (n : Nat) (l : List α), l.length = n → ∀ p ∈ stk leaf node emp l, p.2 ≤ l.length := by
  intro n
  induction n using Nat.strongRecOn with
  | ind n ih =>
    intro l hl p hp
    by_cases hn : l = []
    · subst hn; cases hp
    have h0 : l.length ≠ 0 := fun e => hn (List.eq_nil_of_length_eq_zero e)
    have h1 := Nat.log2_self_le h0
    have hpos := Nat.two_pow_pos (Nat.log2 l.length)
    rw [stk_cons leaf node emp l hn] at hp
    rcases List.mem_cons.1 hp with e | hp
    · rw [e]; exact h1
    · have := ih (l.drop (2 ^ Nat.log2 l.length)).length (by rw [List.length_drop]; omega) _ rfl p hp
      rw [List.length_drop] at this; omega

/-- one part alone: the list is complete -/
theorem stk_single {l : List α} {p : D × Nat} (h : stk leaf node emp l = [p]) : l.length = p.2 ∧ p.2 = 2 ^ Nat.log2 l.length ∧ p.1 = root leaf node emp l := by
  have hn : l ≠ [] := by intro e; subst e; cases h
  have h0 : l.length ≠ 0 := fun e => hn (List.eq_nil_of_length_eq_zero e)
  have h1 := Nat.log2_self_le h0
  rw [stk_cons leaf node emp l hn] at h
  injection h with e1 e2
  have hd : l.drop (2 ^ Nat.log2 l.length) = [] := by
    apply Classical.byContradiction
    intro hd
    rw [stk_cons leaf node emp _ hd] at e2
    cases e2
  have hlen := congrArg List.length hd
  rw [List.length_drop] at hlen
  simp at hlen
  have he : 2 ^ Nat.log2 l.length = l.length := by omega
  subst e1
  refine ⟨he.symm, rfl, ?_⟩
  simp only [he, List.take_length]

theorem stk_length : ∀ (n : Nat) (l : List α), l.length = n → (stk leaf node emp l).length ≤ l.length := by
  intro n
  induction n using Nat.strongRecOn with
  | ind n ih =>
    intro l hl
    by_cases hn : l = []
    · subst hn; exact Nat.le_refl _
    have h0 : l.length ≠ 0 := fun e => hn (List.eq_nil_of_length_eq_zero e)
    have h1 := Nat.log2_self_le h0
    have hpos := Nat.two_pow_pos (Nat.log2 l.length)
    rw [stk_cons leaf node emp l hn, List.length_cons]
    have := ih (l.drop (2 ^ Nat.log2 l.length)).length (by rw [List.length_drop]; omega) _ rfl
    rw [List.length_drop] at this; omega
theorem Merges.grows {s s' : List (D × Nat)} (h : Merges node s s') : ∀ x ∈ s, ∃ y ∈ s', x.2 ≤ y.2 := by
  induction h with
  | stop _ => exact fun x hx => ⟨x, hx, Nat.le_refl _⟩
  | @step p a b m s' _ ih =>
    intro x hx
    simp only [List.mem_append, List.mem_cons, List.not_mem_nil, or_false] at hx
    rcases hx with hx | rfl | rfl
    · exact ih x (by simp [hx])
    · obtain ⟨y, h1, h2⟩ := ih (node a b, 2 * m) (by simp)
      exact ⟨y, h1, by simp at h2 ⊢; omega⟩
    · obtain ⟨y, h1, h2⟩ := ih (node a b, 2 * m) (by simp)
      exact ⟨y, h1, by simp at h2 ⊢; omega⟩

theorem stk_push : ∀ (n : Nat) (l : List α) (x : α), l.length = n → Merges node (stk leaf node emp l ++ [(leaf x, 1)]) (stk leaf node emp (l ++ [x])) := by
  intro n
  induction n using Nat.strongRecOn with
  | ind n ih =>
    intro l x hl
    by_cases hn : l = []
    · subst hn
      refine .stop fun p a b m e => ?_
      have := congrArg List.length e
      simp [stk_nil] at this
    have h0 : l.length ≠ 0 := fun e => hn (List.eq_nil_of_length_eq_zero e)
    have hpos := Nat.two_pow_pos (Nat.log2 l.length)
    have h1 := Nat.log2_self_le h0
    have h2 := Nat.lt_log2_self (n := l.length)
    rw [Nat.pow_succ] at h2
    rw [stk_cons leaf node emp l hn]
    generalize hj : Nat.log2 l.length = j at *
    have hi := ih (l.drop (2 ^ j)).length (by rw [List.length_drop]; omega) (l.drop (2 ^ j)) x rfl
    have happ : l.drop (2 ^ j) ++ [x] = (l ++ [x]).drop (2 ^ j) := by
      rw [List.drop_append_of_le_length (by omega)]
    have htk : l.take (2 ^ j) = (l ++ [x]).take (2 ^ j) := by
      rw [List.take_append_of_le_length (by omega)]
    have hne : l ++ [x] ≠ [] := by simp
    by_cases hfull : l.length + 1 = 2 * 2 ^ j
    · -- the last part and the first one merge
      have hlen : (l.drop (2 ^ j) ++ [x]).length = 2 ^ j := by simp; omega
      have hsd : stk leaf node emp (l.drop (2 ^ j) ++ [x]) = [(root leaf node emp (l.drop (2 ^ j) ++ [x]), 2 ^ j)] := by
        have hq : ∀ q : List α, q.length = 2 ^ j → q ≠ [] → stk leaf node emp q = [(root leaf node emp q, 2 ^ j)] := fun q h hne => by
          rw [stk_cons leaf node emp q hne, h, Nat.log2_two_pow, List.drop_of_length_le (by omega), List.take_of_length_le (by omega)]
          rfl
        exact hq _ hlen (by simp)
      have hlen' : (l ++ [x]).length = 2 ^ (j + 1) := by rw [Nat.pow_succ]; simp; omega
      have hs : stk leaf node emp (l ++ [x]) = [(node (root leaf node emp (l.take (2 ^ j))) (root leaf node emp (l.drop (2 ^ j) ++ [x])), 2 * 2 ^ j)] := by
        have hq : ∀ q : List α, q.length = 2 ^ (j + 1) → q ≠ [] → stk leaf node emp q = [(root leaf node emp q, 2 ^ (j + 1))] := fun q h hne => by
          rw [stk_cons leaf node emp q hne, h, Nat.log2_two_pow, List.drop_of_length_le (by omega), List.take_of_length_le (by omega)]
          rfl
        rw [hq _ hlen' hne]
        rw [root_two leaf node emp _ (by rw [hlen', Nat.pow_succ]; omega)]
        have hlf : lft (l ++ [x]).length = 2 ^ j := lft_unique (by rw [hlen', Nat.pow_succ]; omega) (by rw [hlen', Nat.pow_succ]; omega)
        rw [hlf, ← htk, ← happ, Nat.pow_succ, Nat.mul_comm]
      rw [hsd] at hi
      rw [hs]
      -- the tail merges to one part; then the front one
      have front2 : ∀ {s s' : List (D × Nat)}, Merges node s s' → ∀ (r : D) (m : Nat), s' = [(r, m)] → ∀ a s'', Merges node [(a, m), (r, m)] s'' → Merges node ((a, m) :: s) s'' := by
        intro s s' h
        induction h with
        | stop h => intro r m e a s'' h''; subst e; exact h''
        | step _ ih2 => intro r m e a s'' h''; exact .step (p := (a, m) :: _) (ih2 r m e a s'' h'')
      refine front2 hi _ _ rfl _ _ ?_
      refine .step (p := []) (.stop fun p a b m e => ?_)
      have := congrArg List.length e
      simp at this
    · have hlog : Nat.log2 (l ++ [x]).length = j := by
        apply (Nat.log2_eq_iff (by simp)).2
        rw [Nat.pow_succ]; simp; omega
      rw [stk_cons leaf node emp (l ++ [x]) hne, hlog, ← happ, ← htk]
      refine Merges.front node _ hi ?_ ?_
      · intro a m r hs hr hm
        subst hr
        have := (stk_single leaf node emp hs).1
        simp only [List.length_append, List.length_drop, List.length_cons, List.length_nil] at this
        simp only at hm this
        omega
      · rw [stk_cons leaf node emp _ (by simp)]; simp
end
end Dig
