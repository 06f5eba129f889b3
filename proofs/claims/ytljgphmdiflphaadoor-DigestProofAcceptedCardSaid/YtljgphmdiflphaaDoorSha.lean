/- SHA-256 in plain Lean, on lists of bytes; no program in sight. -/
namespace Sha

/-- a word rotated right by n, 1 to 31 -/
def rotr (x n : Nat) : Nat := x / 2 ^ n ||| x * 2 ^ (32 - n) % 4294967296
/-- a word combined with rotations of it -/
def mix (x : Nat) (l : List Nat) : Nat := l.foldl (fun a n => a ^^^ rotr x n) 0

def K : List Nat := [
  0x428a2f98, 0x71374491, 0xb5c0fbcf, 0xe9b5dba5, 0x3956c25b, 0x59f111f1, 0x923f82a4, 0xab1c5ed5,
  0xd807aa98, 0x12835b01, 0x243185be, 0x550c7dc3, 0x72be5d74, 0x80deb1fe, 0x9bdc06a7, 0xc19bf174,
  0xe49b69c1, 0xefbe4786, 0x0fc19dc6, 0x240ca1cc, 0x2de92c6f, 0x4a7484aa, 0x5cb0a9dc, 0x76f988da,
  0x983e5152, 0xa831c66d, 0xb00327c8, 0xbf597fc7, 0xc6e00bf3, 0xd5a79147, 0x06ca6351, 0x14292967,
  0x27b70a85, 0x2e1b2138, 0x4d2c6dfc, 0x53380d13, 0x650a7354, 0x766a0abb, 0x81c2c92e, 0x92722c85,
  0xa2bfe8a1, 0xa81a664b, 0xc24b8b70, 0xc76c51a3, 0xd192e819, 0xd6990624, 0xf40e3585, 0x106aa070,
  0x19a4c116, 0x1e376c08, 0x2748774c, 0x34b0bcb5, 0x391c0cb3, 0x4ed8aa4a, 0x5b9cca4f, 0x682e6ff3,
  0x748f82ee, 0x78a5636f, 0x84c87814, 0x8cc70208, 0x90befffa, 0xa4506ceb, 0xbef9a3f7, 0xc67178f2]
theorem K_length : K.length = 64 := rfl
theorem K_lt : ∀ k ∈ K, k < 4294967296 := by decide

/-- the i-th word of a block -/
def wordv (x0 x1 x2 x3 : Nat) : Nat := ((x0 * 16777216 ||| x1 * 65536) ||| x2 * 256) ||| x3
def word (b : List Nat) (i : Nat) : Nat := wordv (b.getD (4 * i) 0) (b.getD (4 * i + 1) 0) (b.getD (4 * i + 2) 0) (b.getD (4 * i + 3) 0)
/-- the word that follows i words -/
def nextv (x16 x15 x7 x2 : Nat) : Nat := (((x16 + (mix x15 [7, 18] ^^^ x15 / 8)) % 4294967296 + x7) % 4294967296 + (mix x2 [17, 19] ^^^ x2 / 1024)) % 4294967296
def next (w : List Nat) (i : Nat) : Nat := nextv (w.getD (i - 16) 0) (w.getD (i - 15) 0) (w.getD (i - 7) 0) (w.getD (i - 2) 0)
/-- the first n words -/
def schedN (b : List Nat) : Nat → List Nat
  | 0 => []
  | n + 1 => let w := schedN b n; w ++ [if n < 16 then word b n else next w n]
theorem schedN_length (b : List Nat) : ∀ n, (schedN b n).length = n
  | 0 => rfl
  | n + 1 => by simp [schedN, schedN_length b n]
theorem schedN_lo (b : List Nat) (n : Nat) (h : n < 16) : schedN b (n + 1) = schedN b n ++ [word b n] := by simp [schedN, h]
theorem schedN_hi (b : List Nat) (n : Nat) (h : 16 ≤ n) : schedN b (n + 1) = schedN b n ++ [next (schedN b n) n] := by
  simp only [schedN]; rw [if_neg (by omega)]

def tval (e f g h k w : Nat) : Nat := ((((h + mix e [6, 11, 25]) % 4294967296 + ((e &&& f) ^^^ ((4294967295 - e) &&& g))) % 4294967296 + k) % 4294967296 + w) % 4294967296
def uval (a b c : Nat) : Nat := (mix a [2, 13, 22] + (((a &&& b) ^^^ (a &&& c)) ^^^ (b &&& c))) % 4294967296
theorem tval_lt (e f g h k w : Nat) : tval e f g h k w < 4294967296 := Nat.mod_lt _ (by decide)
theorem uval_lt (a b c : Nat) : uval a b c < 4294967296 := Nat.mod_lt _ (by decide)
/-- one round -/
def rd (k w : Nat) : List Nat → List Nat
  | [a, b, c, d, e, f, g, h] =>
    [(tval e f g h k w + uval a b c) % 4294967296, a, b, c, (d + tval e f g h k w) % 4294967296, e, f, g]
  | v => v
def rounds (w : List Nat) (v : List Nat) : Nat → List Nat
  | 0 => v
  | i + 1 => rd (K.getD i 0) (w.getD i 0) (rounds w v i)
def addV (h v : List Nat) : List Nat := List.zipWith (fun x y => (x + y) % 4294967296) h v
/-- a block -/
def blk (h : List Nat) (b : List Nat) : List Nat := addV h (rounds (schedN b 64) h 64)

def H0 : List Nat := [0x6a09e667, 0xbb67ae85, 0x3c6ef372, 0xa54ff53a, 0x510e527f, 0x9b05688c, 0x1f83d9ab, 0x5be0cd19]
/-- the number of zeros behind n bytes and the byte 128 -/
def zeros (n : Nat) : Nat := (119 - n % 64) % 64
def be8 (n : Nat) : List Nat := [n / 2 ^ 56 % 256, n / 2 ^ 48 % 256, n / 2 ^ 40 % 256, n / 2 ^ 32 % 256, n / 2 ^ 24 % 256, n / 2 ^ 16 % 256, n / 2 ^ 8 % 256, n / 2 ^ 0 % 256]
def pad (s : List Nat) : List Nat := s ++ 128 :: (List.replicate (zeros s.length) 0 ++ be8 (8 * s.length))
def run : Nat → List Nat → List Nat → List Nat
  | 0, h, _ => h
  | n + 1, h, b => run n (blk h (b.take 64)) (b.drop 64)
def be4 (x : Nat) : List Nat := [x / 16777216 % 256, x / 65536 % 256, x / 256 % 256, x % 256]
/-- SHA-256 on bytes as numbers -/
def sumN (s : List Nat) : List Nat := (run ((s.length + 72) / 64) H0 (pad s)).flatMap be4

def nats (s : List UInt8) : List Nat := s.map UInt8.toNat
def sum (s : List UInt8) : List UInt8 := (sumN (nats s)).map UInt8.ofNat

theorem pad_length (s : List Nat) : (pad s).length = (s.length + 72) / 64 * 64 := by
  simp only [pad, zeros, be8, List.length_append, List.length_cons, List.length_replicate, List.length_nil]
  omega

theorem run_succ : ∀ (n : Nat) (h b : List Nat), run (n + 1) h b = blk (run n h b) ((b.drop (64 * n)).take 64)
  | 0, h, b => by simp [run]
  | n + 1, h, b => by
    rw [run, run_succ n, run, List.drop_drop, show 64 + 64 * n = 64 * (n + 1) by omega]
theorem rd_length (k w : Nat) (v : List Nat) (h : v.length = 8) : (rd k w v).length = 8 := by
  match v, h with
  | [a, b, c, d, e, f, g, h], _ => rfl
theorem rounds_length (w v : List Nat) (h : v.length = 8) : ∀ i, (rounds w v i).length = 8
  | 0 => h
  | i + 1 => rd_length _ _ _ (rounds_length w v h i)
theorem blk_length (h b : List Nat) (hh : h.length = 8) : (blk h b).length = 8 := by
  simp [blk, addV, rounds_length _ _ hh, hh]
theorem run_length : ∀ n h b, h.length = 8 → (run n h b).length = 8
  | 0, _, _, hh => hh
  | n + 1, _, _, hh => run_length n _ _ (blk_length _ _ hh)
theorem flat_length : ∀ l : List Nat, (l.flatMap be4).length = 4 * l.length
  | [] => rfl
  | x :: l => by simp [flat_length l, be4]; omega
theorem sum_length (s : List UInt8) : (sum s).length = 32 := by
  unfold sum sumN
  rw [List.length_map, flat_length, run_length _ H0 _ rfl]

theorem rotr_lt (x n : Nat) (hx : x < 4294967296) : rotr x n < 4294967296 := by
  unfold rotr
  refine Nat.or_lt_two_pow (n := 32) ?_ (Nat.mod_lt _ (by decide))
  exact Nat.lt_of_le_of_lt (Nat.div_le_self _ _) hx
theorem mix_lt (x : Nat) (hx : x < 4294967296) : ∀ (l : List Nat), mix x l < 4294967296 := by
  have : ∀ (l : List Nat) (a : Nat), a < 4294967296 → l.foldl (fun a n => a ^^^ rotr x n) a < 4294967296 := by
    intro l
    induction l with
    | nil => exact fun a h => h
    | cons n l ih => exact fun a h => ih _ (Nat.xor_lt_two_pow (n := 32) h (rotr_lt x n hx))
  exact fun l => this l 0 (by decide)
theorem mix_snoc (x : Nat) (l : List Nat) (n : Nat) : mix x (l ++ [n]) = mix x l ^^^ rotr x n := by simp [mix]

def small (l : List Nat) : Prop := ∀ x ∈ l, x < 4294967296
theorem getD_lt {l : List Nat} (h : small l) (i : Nat) : l.getD i 0 < 4294967296 := by
  rw [List.getD_eq_getElem?_getD]
  by_cases hi : i < l.length
  · rw [List.getElem?_eq_getElem hi]; exact h _ (List.getElem_mem hi)
  · rw [List.getElem?_eq_none (by omega)]; decide
def bytes (l : List Nat) : Prop := ∀ x ∈ l, x < 256
theorem getD_byte {l : List Nat} (h : bytes l) (i : Nat) : l.getD i 0 < 256 := by
  rw [List.getD_eq_getElem?_getD]
  by_cases hi : i < l.length
  · rw [List.getElem?_eq_getElem hi]; exact h _ (List.getElem_mem hi)
  · rw [List.getElem?_eq_none (by omega)]; decide
theorem nats_bytes (s : List UInt8) : bytes (nats s) := by
  intro x hx
  obtain ⟨y, _, rfl⟩ := List.mem_map.1 hx
  exact y.toNat_lt
theorem word_lt {b : List Nat} (h : bytes b) (i : Nat) : word b i < 4294967296 := by
  unfold word wordv
  have h0 := getD_byte h (4 * i)
  have h1 := getD_byte h (4 * i + 1)
  have h2 := getD_byte h (4 * i + 2)
  have h3 := getD_byte h (4 * i + 3)
  refine Nat.or_lt_two_pow (n := 32) (Nat.or_lt_two_pow (n := 32) (Nat.or_lt_two_pow (n := 32) ?_ ?_) ?_) ?_ <;> omega
theorem next_lt (w : List Nat) (i : Nat) : next w i < 4294967296 := Nat.mod_lt _ (by decide)
theorem sched_small {b : List Nat} (h : bytes b) : ∀ n, small (schedN b n)
  | 0 => fun x hx => by cases hx
  | n + 1 => by
    intro x hx
    simp only [schedN, List.mem_append, List.mem_singleton] at hx
    rcases hx with hx | rfl
    · exact sched_small h n x hx
    · split
      · exact word_lt h n
      · exact next_lt _ _
theorem rd_small (k w : Nat) (v : List Nat) (h : small v) : small (rd k w v) := by
  unfold rd
  split
  · intro x hx
    simp only [List.mem_cons, List.not_mem_nil, or_false] at hx
    rcases hx with rfl | rfl | rfl | rfl | rfl | rfl | rfl | rfl
    · exact Nat.mod_lt _ (by decide)
    · exact h _ (by simp)
    · exact h _ (by simp)
    · exact h _ (by simp)
    · exact Nat.mod_lt _ (by decide)
    · exact h _ (by simp)
    · exact h _ (by simp)
    · exact h _ (by simp)
  · exact h
theorem rounds_small (w v : List Nat) (h : small v) : ∀ i, small (rounds w v i)
  | 0 => h
  | i + 1 => rd_small _ _ _ (rounds_small w v h i)
theorem addV_small (h v : List Nat) : small (addV h v) := by
  intro x hx
  simp only [addV, List.mem_iff_getElem, List.length_zipWith, List.getElem_zipWith] at hx
  obtain ⟨i, hi, rfl⟩ := hx
  exact Nat.mod_lt _ (by decide)
theorem pad_bytes (s : List Nat) (h : bytes s) : bytes (pad s) := by
  intro x hx
  simp only [pad, be8, List.mem_append, List.mem_cons, List.mem_replicate, List.not_mem_nil, or_false] at hx
  rcases hx with hx | rfl | ⟨_, rfl⟩ | hx
  · exact h x hx
  · decide
  · decide
  · omega
theorem H0_small : small H0 := by unfold small; decide
theorem run_small : ∀ n h b, small h → small (run n h b)
  | 0, _, _, hh => hh
  | n + 1, _, _, _ => run_small n _ _ (addV_small _ _)

/-! ### Two known answers -/
theorem sum_empty : sum [] = [227, 176, 196, 66, 152, 252, 28, 20, 154, 251, 244, 200, 153, 111, 185, 36, 39, 174, 65, 228, 100, 155, 147, 76, 164, 149, 153, 27, 120, 82, 184, 85] := by decide +kernel
end Sha
