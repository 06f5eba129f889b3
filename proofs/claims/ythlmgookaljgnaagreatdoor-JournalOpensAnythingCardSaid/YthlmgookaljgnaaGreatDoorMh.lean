/- The journal: Open, where it writes.
  The journal's laws: sane.
  Plain facts for the disk: which pending writes survive, and what they leave. No program in sight.
  slices.IndexFunc and slices.DeleteFunc at ints, for a function value that only reads.
  The disk laws' own small functions: pick, cut, fits, put.
  slices.Values at ints, and slices.Collect (AppendSeq) over it: a new slice with the same numbers. After the guide's worked texts on iterators over slices.
  The disk: Crash.
-/
import Derived.Test.YthlmgookaljgnaaGreatDoorMg
import Derived.Test.YthlmgookaljgnaaGreatDoorMa
import Derived.Test.YthlmgookaljgnaaGreatDoorProg
import Derived.Test.YthlmgookaljgnaaGreatDoorMe
import Derived.Test.YthlmgookaljgnaaGreatDoorShelf
import Derived.Lib.SlicesCompact
import Derived.Laws.CopyOwn
import Derived.RangeFuncBox
import Derived.RangeFuncLeaves
import Derived.Shelf.Abstract
import Derived.OwnWalkIn
import Derived.TacticsInMore
import Derived.LoopNIn
import Derived.LoopIn
import Derived.Maps.AppendAt
import Derived.Sort.OwnSorted
import Derived.Lib.SlKeysI
import Derived.Lib.RowBridge
import Derived.Shelf.Slices.In.SortNone
namespace Go.Proofs.YthlmgookaljgnaaGreatDoor
open Go.RowKit Go.Shelf
set_option linter.unusedVariables false
set_option linter.unusedSimpArgs false

def zsL (n : Nat) : List UInt8 := List.replicate n 0
def zs (n : Nat) : ByteArray := ⟨(List.replicate n (0 : UInt8)).toArray⟩
theorem zs_size (n : Nat) : (zs n).size = n := by show (List.replicate n (0 : UInt8)).toArray.size = n; simp
theorem mkZ (n : Nat) (hn : n ≤ 4194304) (W : World) : (Instr.makeSlice 39 (.int .i64 (n : Int)) (.int .i64 (n : Int))).run Tryz.prog W = .ok (.slice (some ⟨W.heap.size, 0, none⟩) n n) (W.alloc (.cells (bytesV (zsL n)).toArray 5)) := by
  rw [zsL, ← madeBytes]
  exact run_make_row' 39 5 (.int .u8 0) 1 Tryz.underlying39 Tryz.infoByte rfl .i64 .i64 n (by omega) (by omega) W
theorem sconv {W : World} {g n : Nat} (h : W.heap[g]? = some (.cells (bytesV (zsL n)).toArray 5 (0, 0))) (hn : n ≤ 1000000) :
    (convert 39 9 (.slice (some ⟨g, 0, none⟩) n n)).run Tryz.prog W = .ok (.string (zs n)) W := by
  rw [run_conv_row 39 9 5 Tryz.underlying39 Tryz.underlying5 Tryz.underlying9 g 0 n n _ _ h (by simp [zsL])]
  rw [zs, zsL, List.drop_zero, List.take_of_length_le (by simp)]

theorem own_at (W : World) (xs : List ByteArray) (b m base : Nat) (hb : W.heap.size = b) (hm : xs.length = m) (hl : xs.length ≤ 1000000) (h0 : base ≤ W.heap.size := by exact Nat.zero_le _) : (W.alloc (.cells (strV xs).toArray 9)).ownsRow base 9 1 (.slice (some ⟨b, 0, none⟩) m m) m (strV xs) := by
  subst hb hm; exact own_lit W xs base h0 hl
theorem SL_at (W : World) (xs : List ByteArray) (b m : Nat) (hb : W.heap.size = b) (hm : xs.length = m) (hl : xs.length ≤ 1000000) : SL (W.alloc (.cells (strV xs).toArray 9)) (.slice (some ⟨b, 0, none⟩) m m) xs := by
  subst hb hm; exact SL_own (own_lit W xs 0 (Nat.zero_le _) hl)

/-- the two calls of Open -/
structure F2I (W : World) (bd n : Nat) (d : DV) (p : Nat) (s : ByteArray) (F : Nat → Prop) (k : Nat) (W' : World) : Prop where
  disk : ∃ F', DiskF W' bd n (match k with | 0 => d | 1 => writeD d p s | _ => syncD (writeD d p s)) F' ∧ Moves F F' W W'
  o1 : 2 ≤ k → (writeD d p s).off = false

set_option maxHeartbeats 1000000 in
theorem first2_any {W : World} {jb bd n : Nat} {d : DV} {p : Nat} {s : ByteArray} {F : Nat → Prop} {b1 g cap : Nat} {ty : TypeId} (hD : DiskF W bd n d F) (ho : d.off = false) (h1 : WBox W b1 jb (p : Int) s)
    (hg : W.heap[g]? = some (.cells #[f4v bd b1 0 0, f4v bd b1 0 1] ty (0, 0))) (hj : W.cell? ⟨jb, 3, none⟩ = some (.pointer (some ⟨bd, 0, none⟩)))
    (n1 : ∀ k, b1 ≤ k → k < b1 + 3 → ¬ F k) (ng : ¬ F g) (nj : ¬ F jb) (hp : p + s.size ≤ n) (hl : d.pe.length ≤ 100000) :
    Calls Tryz.prog 32 #[.slice (some ⟨g, 0, none⟩) 2 cap] W fun e W' => ∃ c : Int, e = .returned (.int .i64 c) ∧ ∃ F' d', DiskF W' bd n d' F' ∧ Moves F F' W W' ∧
      ((c = 0 ∧ (writeD d p s).off = false ∧ d' = syncD (writeD d p s)) ∨ (c = 251 ∧ (writeD d p s).off = true ∧ d' = writeD d p s)) := by
  have hjl := World.block_lt_of_cell? _ _ hj
  have at_ : ∀ {k W'}, F2I W bd n d p s F k W' → ∀ j, j < W.heap.size → ¬ F j → W'.heap[j]? = W.heap[j]? := fun hI j hj' hF => by
    obtain ⟨F', _, hm⟩ := hI.disk
    exact hm.upd.block j hj' hF
  have apart : ∀ {k W'} (hI : F2I W bd n d p s F k W') (j : Nat), j < W.heap.size → ¬ F j → ∀ F', Moves F F' W W' → ¬ F' j := fun hI j hj' hF F' hm hf => by
    rcases hm.2 j hf with e | e
    · exact hF e
    · omega
  have box1 : ∀ {k W'}, F2I W bd n d p s F k W' → WBox W' b1 jb (p : Int) s := fun hI => h1.kept fun j j1 j2 => at_ hI j (by have := ltOf h1.b2; omega) (n1 j j1 j2)
  have cj : ∀ {k W'}, F2I W bd n d p s F k W' → W'.cell? ⟨jb, 3, none⟩ = some (.pointer (some ⟨bd, 0, none⟩)) := fun hI => (World.cell?_of_block (w := W) (at_ hI jb hjl nj)).trans hj
  refine (first_any g 2 cap (by omega) f4n (f4i bd) (f4c b1 0) (fun k hk => ?_) (F2I W bd n d p s F) (fun c W' => c = 251 ∧ (writeD d p s).off = true ∧ ∃ F', DiskF W' bd n (writeD d p s) F' ∧ Moves F F' W W') (fun k W' hk hI => ?_) (fun k W' hk hI => ?_) W ⟨⟨F, hD, Moves.refl _ _⟩, fun h => by omega⟩).mono ?_
  · rcases k with _ | _ | k
    · exact enters_of Tryz.func56 (by kernel_rfl) rfl
    · exact enters_of Tryz.func34 (by kernel_rfl) rfl
    · omega
  · rw [cellOf ((at_ hI g (ltOf hg) ng).trans hg)]
    rcases k with _ | _ | k
    · rfl
    · rfl
    · omega
  · obtain ⟨F', hD', hm⟩ := hI.disk
    have m1 : ∀ j, b1 ≤ j → j < b1 + 3 → ¬ F' j := fun j j1 j2 => apart hI j (by have := ltOf h1.b2; omega) (n1 j j1 j2) F' hm
    have mj : ¬ F' jb := apart hI jb hjl nj F' hm
    rcases k with _ | _ | k
    · show Calls Tryz.prog 56 #[.pointer (some ⟨b1, 0, none⟩), .pointer (some ⟨b1 + 1, 0, none⟩), .pointer (some ⟨b1 + 2, 0, none⟩)] W' _
      exact step_write (box1 hI) (cj hI) hD' hm m1 mj hp (by show d.pe.length ≤ _; omega) (fun h => by rw [show d.off = true from h] at ho; cases ho) (fun _ F2 W2 hD2 hm2 => .inl ⟨rfl, ⟨F2, hD2, hm2⟩, fun h => by omega⟩)
    · show Calls Tryz.prog 34 #[.pointer (some ⟨bd, 0, none⟩)] W' _
      cases hof : (writeD d p s).off with
      | true =>
        refine (syncF_off hD' hof).mono ?_
        rintro e w' ⟨rfl, rfl⟩
        exact .inr ⟨251, by decide, rfl, rfl, rfl, ⟨F', hD', hm⟩⟩
      | false =>
        refine (syncF hD' hof).mono ?_
        rintro e w' ⟨rfl, F2, hD2, hm2⟩
        exact .inl ⟨rfl, ⟨F2, hD2, hm.trans hm2⟩, fun _ => hof⟩
    · omega
  · rintro e W' (⟨rfl, hI⟩ | ⟨c, hc, rfl, rfl, hof, F', hD', hm⟩)
    · obtain ⟨F', hD', hm⟩ := hI.disk
      exact ⟨0, rfl, F', _, hD', hm, .inl ⟨rfl, hI.o1 (by omega), rfl⟩⟩
    · exact ⟨251, rfl, F', _, hD', hm, .inr ⟨rfl, hof, rfl⟩⟩

theorem cell_keep3' {w w' : World} {b o : Nat} {v : Value} {o1 o2 o3 : Obj} (h : ((w.alloc o1).alloc o2).alloc o3 = w') (hc : w.cell? ⟨b, o, none⟩ = some v) : w'.cell? ⟨b, o, none⟩ = some v := by
  subst h
  have : b < w.heap.size := World.block_lt_of_cell? _ _ hc
  rw [World.cell?_alloc_past _ _ _ (by simp; omega), World.cell?_alloc_past _ _ _ (by simp; omega), World.cell?_alloc_past _ _ _ this]; exact hc
theorem first2_at {W1 Wa : World} {jb bd n : Nat} {d : DV} {p b1 : Nat} {s : ByteArray} {F : Nat → Prop} {ty : TypeId} (hD : DiskF W1 bd n d F) (ho : d.off = false) (hb1 : W1.heap.size = b1)
    (ha : ((W1.alloc (.cells #[.pointer (some ⟨jb, 0, none⟩)] 28)).alloc (.cells #[.int .i64 (p : Int)] 3)).alloc (.cells #[.string s] 9) = Wa)
    (hj : W1.cell? ⟨jb, 3, none⟩ = some (.pointer (some ⟨bd, 0, none⟩))) (nj : ¬ F jb) (hp : p + s.size ≤ n) (hl : d.pe.length ≤ 100000) :
    Calls Tryz.prog 32 #[.slice (some ⟨Wa.heap.size, 0, none⟩) 2 2] (Wa.alloc (.cells #[f4v bd b1 0 0, f4v bd b1 0 1] ty)) fun e W' =>
      ∃ c : Int, e = .returned (.int .i64 c) ∧ ∃ F' d', DiskF W' bd n d' F' ∧ (∀ k, F' k → F k ∨ W1.heap.size ≤ k) ∧ Upd F W1 W' ∧
        ((c = 0 ∧ (writeD d p s).off = false ∧ d' = syncD (writeD d p s)) ∨ (c = 251 ∧ (writeD d p s).off = true ∧ d' = writeD d p s)) := by
  obtain ⟨a1, a2, a3⟩ := wbox_of ha
  subst hb1
  have hWc : Below W1.heap.size W1 (Wa.alloc (.cells #[f4v bd W1.heap.size 0 0, f4v bd W1.heap.size 0 1] ty)) := a2.alloc a2.size _
  have hFl : ∀ k, F k → k < W1.heap.size := fun k hk => hD.lt hk
  have hjl := World.block_lt_of_cell? _ _ hj
  refine (first2_any (hD.upd (Upd.of_below (S := fun _ => False) hWc) (fun _ _ f => f)) ho (b1 := W1.heap.size) (jb := jb) (p := p) (s := s) (a1.kept fun k h1 h2 => allocOld (by omega) _) (allocAt _ rfl) ((hWc.cell (p := ⟨jb, 3, none⟩) hjl).trans hj)
    (fun k h1 _ h => by have := hFl k h; omega) (fun h => by have := hFl _ h; omega) nj hp hl).mono ?_
  rintro e W' ⟨c, rfl, F', d', h1, h2, h3⟩
  exact ⟨c, rfl, F', d', h1, fun k hk => (h2.2 k hk).imp id (fun h => Nat.le_trans hWc.size h), (Upd.of_below (S := F) hWc).trans h2.1 (fun _ _ h => h), h3⟩

theorem trimR_ne (l : List UInt8) (h : ∃ x ∈ l, x ≠ 0) : Lib.trimB l 0 ≠ [] := by
  have dw : ∀ m : List UInt8, (∃ x ∈ m, x ≠ 0) → ∃ x ∈ m.dropWhile (· == 0), x ≠ 0 := by
    intro m
    induction m with
    | nil => rintro ⟨x, hx, _⟩; cases hx
    | cons y m ih =>
      rintro ⟨x, hx, h0⟩
      by_cases hy : y = 0
      · rw [List.dropWhile_cons, if_pos (by rw [hy]; rfl)]
        rcases List.mem_cons.1 hx with rfl | hx
        · exact absurd hy h0
        · exact ih ⟨x, hx, h0⟩
      · rw [List.dropWhile_cons, if_neg (by simpa using hy)]
        exact ⟨x, hx, h0⟩
  unfold Lib.trimB Lib.trimRightB Lib.trimLeftB
  intro e
  obtain ⟨x, hx, h0⟩ := h
  obtain ⟨y, hy, hy0⟩ := dw l.reverse ⟨x, by simpa using hx, h0⟩
  obtain ⟨z, hz, _⟩ := dw (l.reverse.dropWhile (· == 0)).reverse ⟨y, by simpa using hy, hy0⟩
  first
  | (rw [e] at hz; cases hz)
  | (obtain ⟨y, hy, hy0⟩ := dw l ⟨x, hx, h0⟩
     obtain ⟨z, hz, _⟩ := dw (l.dropWhile (· == 0)).reverse ⟨y, by simpa using hy, hy0⟩
     rw [List.reverse_eq_nil_iff.1 e] at hz; cases hz)

set_option maxRecDepth 100000 in
set_option maxHeartbeats 2000000 in
theorem Open_write {w : World} {bd n : Nat} {d : DV} {F : Nat → Prop} (h : DiskF w bd n d F) (ho : d.off = false) (hn : n ≤ 900000) (hR : RoundLaid w) (a : Addr) (hD : DamLaid a w) (t' : TV) (hP : loadP (diskB d) (n + 1) tv0 = some t') (hz : ∃ x ∈ d.vi.drop t'.size, x ≠ 0) (hpe : d.pe.length ≤ 100000) :
    Calls Tryz.prog 24 #[.pointer (some ⟨bd, 0, none⟩)] w fun e w' => ∃ F' d', DiskF w' bd n d' F' ∧ Moves F F' w w' ∧
      (((writeD d t'.size (zs (n - t'.size))).off = true ∧ d' = writeD d t'.size (zs (n - t'.size)) ∧ e = .returned (.tuple #[.pointer none, .int .i64 251])) ∨
       ((writeD d t'.size (zs (n - t'.size))).off = false ∧ d' = syncD (writeD d t'.size (zs (n - t'.size))) ∧ ∃ jb G', e = .returned (.tuple #[.pointer (some ⟨jb, 0, none⟩), .int .i64 0]) ∧ JG w' jb bd n false t' d' G' ∧ (∀ k, G' k → F k ∨ w.heap.size ≤ k))) := by
  have hsz : (diskB d).size = n := by rw [diskB]; show d.vi.toArray.size = n; rw [List.size_toArray]; exact h.size_pos.2.2.1
  have SZ := Lib.hid (sizeF h)
  have RD := Lib.hid (readF_all h ho)
  have OP := Lib.hid (openj_ok bd (diskB d) (by omega) w hR a hD t' (by rw [hsz]; exact hP))
  rw [show (⟨d.vi.toArray⟩ : ByteArray) = diskB d from rfl] at RD
  have hTR : ∃ s2 : ByteArray, s2.toList.isEmpty = false ∧ ∀ W, Calls Tryz.prog 51 #[.string ((diskB d).extract t'.size n), .string ⟨#[0]⟩] W fun e w' => e = .returned (.string s2) ∧ (w' = W ∨ w' = W.drew) := by
    refine ⟨⟨(Lib.trimB ((diskB d).extract t'.size n).data.toList 0).toArray⟩, ?_, fun W => Tryz.strings_Trim_one ((diskB d).extract t'.size n) 0 (by decide) W (by rw [ByteArray.size_extract]; omega)⟩
    have e : ((diskB d).extract t'.size n).data.toList = d.vi.drop t'.size := by
      rw [extract_list, diskB]
      show ((d.vi.toArray.toList.drop t'.size).take (n - t'.size)) = _
      rw [List.take_of_length_le (by simp; have := h.size_pos.2.2.1; omega)]
    rw [e, ByteArray.toList_eq]
    have := trimR_ne _ hz
    cases hx : Lib.trimB (d.vi.drop t'.size) 0 with
    | nil => exact absurd hx this
    | cons y l => rfl
  obtain ⟨s2, hs2, hTR⟩ := hTR
  have TR := Lib.hid hTR
  have HF := Lib.hid h
  have HO := Lib.hid (And.intro ho hpe)
  clear h ho hR hD hP hz hTR hpe
  generalize diskB d = s at *
  go_enter Tryz.func24, Tryz.ntmps24
  go_wp2_with (first
    | (go_at_call 43; refine SZ.out.mono ?_; rintro e w' ⟨rfl, rfl⟩)
    | (go_at_call 44; refine RD.out.mono ?_; rintro e w' ⟨rfl, rfl⟩)
    | (go_at_call 50
       refine OP.out.mono ?_
       rintro e w' ⟨jb, lv, rfl, hj, hT, hl, hB, h1, h2⟩
       have c2 : w'.cell? ⟨jb, 2, none⟩ = some (.int .i64 (t'.size : Int)) := cellOf hT.cells 2
       have h1i : (t'.size : Int) ≤ (s.size : Int) := by omega
       have HB := Lib.hid hB
       have HT := Lib.hid hT
       have HL := Lib.hid hl
       clear hB hT hl)
    | fail)
  refine (TR.out _).mono ?_
  rintro e w'' ⟨rfl, hw⟩
  have FIN : Hid (JAt w'' jb bd false lv t' ∧ Below w.heap.size w w'') := Lib.hid (by
    rcases hw with rfl | rfl
    · exact ⟨HT.out, HB.out⟩
    · exact ⟨HT.out.below (Below.refl _ _).drew, HB.out.drew⟩)
  clear hw c2 HT HB
  have j2 : w''.cell? ⟨jb, 2, none⟩ = some (.int .i64 (t'.size : Int)) := cellOf FIN.out.1.cells 2
  have j3 : w''.cell? ⟨jb, 3, none⟩ = some (.pointer (some ⟨bd, 0, none⟩)) := cellOf FIN.out.1.cells 3
  obtain ⟨q, hq⟩ : ∃ q : Nat, n - t'.size = q := ⟨_, rfl⟩
  have HQ := Lib.hid hq
  have hqi : IntKind.i64.wrap (q : Int) = (q : Int) := by rw [IntKind.wrap_i64]; omega
  have hqi2 : (n : Int) - (t'.size : Int) = (q : Int) := by omega
  have hqb : q ≤ 900000 := by omega
  have hmk := fun W => mkZ q (by omega) W
  have hcv : ∀ W : World, (convert 39 9 (.slice (some ⟨W.heap.size, 0, none⟩) q q)).run Tryz.prog (W.alloc (.cells (bytesV (zsL q)).toArray 5)) = .ok (.string (zs q)) (W.alloc (.cells (bytesV (zsL q)).toArray 5)) := fun W => sconv (allocAt _ rfl) (by omega)
  have hcvd : ∀ W : World, (convert 39 9 (.slice (some ⟨W.heap.size, 0, none⟩) q q)).run Tryz.prog (W.alloc (.cells (bytesV (zsL q)).toArray 5)).drew = .ok (.string (zs q)) (W.alloc (.cells (bytesV (zsL q)).toArray 5)).drew := fun W => sconv (by rw [drewHeap]; exact allocAt _ rfl) (by omega)
  have hcve : ∀ W : World, (convert 39 9 (.slice (some ⟨W.heap.size, 0, none⟩) q q)).run Tryz.prog (W.drew.alloc (.cells (bytesV (zsL q)).toArray 5)) = .ok (.string (zs q)) (W.drew.alloc (.cells (bytesV (zsL q)).toArray 5)) := fun W => sconv (allocAt _ rfl) (by omega)
  have hmf : ∀ (fn : Fn) (first cap : Array Value) (w : World), (Instr.makeFunc fn first cap).run Tryz.prog w = .ok (.func fn first cap) w := fun _ _ _ _ => rfl
  clear hq
  go_wp2
  have k2 : ∀ o, (w''.drew.alloc o).cell? ⟨jb, 2, none⟩ = some (.int .i64 (t'.size : Int)) := fun o => keepA0 (by rw [World.cell?_drew]; exact j2)
  have k3 : ∀ o, (w''.drew.alloc o).cell? ⟨jb, 3, none⟩ = some (.pointer (some ⟨bd, 0, none⟩)) := fun o => keepA0 (by rw [World.cell?_drew]; exact j3)
  have HD1 := Lib.hid (HF.out.upd (Upd.of_below (S := fun _ => False) (FIN.out.2.drew.alloc FIN.out.2.size (.cells (bytesV (zsL q)).toArray 5))) (fun _ _ f => f))
  have HJF := Lib.hid (show ¬ F jb from fun e => by have := HF.out.lt e; omega)
  have HP := Lib.hid (show t'.size + (zs q).size ≤ n by rw [zs_size]; have := HQ.out; omega)
  have K2 := Lib.hid k2
  have K3 := Lib.hid k3
  clear k2 k3
  go_region_held (fun w' => w'.cell? ⟨jb, 2, none⟩ = some (.int .i64 (t'.size : Int)) ∧ w'.cell? ⟨jb, 3, none⟩ = some (.pointer (some ⟨bd, 0, none⟩)))
    (first | exact ⟨j2, j3⟩ | exact ⟨p2, p3⟩ | exact ⟨u2, u3⟩ | exact ⟨K2.out _, K3.out _⟩ | go_keep)
    (first
      | (go_at_call 32
         refine (first2_at HD1.out HO.out.1 (by simp) HWa.out (K3.out _) HJF.out HP.out HO.out.2).mono ?_
         rintro e Wd ⟨c, rfl, hPd⟩
         have u2 : Wd.cell? ⟨jb, 2, none⟩ = some (.int .i64 (t'.size : Int)) := by
           obtain ⟨F', d', _, _, hU, _⟩ := hPd
           exact hU.cell (K2.out _) HJF.out
         have u3 : Wd.cell? ⟨jb, 3, none⟩ = some (.pointer (some ⟨bd, 0, none⟩)) := by
           obtain ⟨F', d', _, _, hU, _⟩ := hPd
           exact hU.cell (K3.out _) HJF.out
         have HPD := Lib.hid hPd
         clear hPd)
      | (go_at_call 33
         refine (writing_any jb _ _ _).mono ?_
         rintro e Wa ⟨rfl, hWa⟩
         have HWa := Lib.hid hWa
         have p2 : Wa.cell? ⟨jb, 2, none⟩ = some (.int .i64 (t'.size : Int)) := cell_keep3 hWa (K2.out _)
         have p3 : Wa.cell? ⟨jb, 3, none⟩ = some (.pointer (some ⟨bd, 0, none⟩)) := cell_keep3 hWa (K3.out _)
         clear hWa)
      | fail)
  all_goals
    obtain ⟨FF, d', hDF, hFF, hUF, hcase⟩ := HPD.out
    have HBW : Below w.heap.size w (w''.drew.alloc (.cells (bytesV (zsL q)).toArray 5)) := FIN.out.2.drew.alloc FIN.out.2.size _
    have hU0 : Upd F w Wd := (Upd.of_below (S := F) HBW).trans hUF (fun _ _ h => h)
    have hFF0 : ∀ k, FF k → F k ∨ w.heap.size ≤ k := fun k hk => (hFF k hk).imp id (fun h => Nat.le_trans HBW.size h)
    have hT : JAt Wd jb bd false lv t' := by
      have h0 := FIN.out.1.below ((Below.refl _ w'').drew.alloc (Nat.le_refl _) (.cells (bytesV (zsL q)).toArray 5))
      refine h0.kept fun k hk hf => hUF.block k hk (fun e => ?_)
      have := HF.out.lt e
      rcases hf with rfl | hf
      · omega
      · have := HL.out k hf; omega
    have HRES := Lib.hid (And.intro hDF (And.intro hU0 (And.intro hFF0 hT)))
    have HNF := Lib.hid (show ∀ g, lv.ownBlock = some g → ¬ FF g from fun g e hf => by
      have h1 := HL.out g e
      have h2 := (FIN.out.1.row.lt g e).2
      rcases hFF g hf with h3 | h3
      · have := HF.out.lt h3; omega
      · simp at h3; omega)
    have HNJ := Lib.hid (show ¬ FF jb from fun hf => by
      have h2 := ltOf FIN.out.1.cells
      rcases hFF jb hf with h3 | h3
      · have := HF.out.lt h3; omega
      · simp at h3; omega)
    clear hDF hU0 hFF0 hT hFF hUF HBW
    rcases hcase with ⟨rfl, hof, rfl⟩ | ⟨rfl, hof, rfl⟩
    · have HOF := Lib.hid hof
      clear hof
      go_wp2
      go_ret2
      refine ⟨FF, _, by rw [HQ.out]; exact HRES.out.1, ⟨HRES.out.2.1, HRES.out.2.2.1⟩, .inr ⟨by rw [HQ.out]; exact HOF.out, rfl, jb, rfl, fun k => FF k ∨ k = jb ∨ lv.ownBlock = some k, ⟨⟨lv, FF, HRES.out.2.2.2, by rw [HQ.out]; exact HRES.out.1, HNF.out, HNJ.out, fun _ => Iff.rfl⟩, h2, by omega⟩, ?_⟩⟩
      · rintro k (hk | rfl | hk)
        · exact HRES.out.2.2.1 k hk
        · exact .inr hj
        · exact .inr (HL.out k hk)
    · have HOF := Lib.hid hof
      clear hof
      go_wp2
      go_ret2
      exact ⟨FF, _, by rw [HQ.out]; exact HRES.out.1, ⟨HRES.out.2.1, HRES.out.2.2.1⟩, .inl ⟨by rw [HQ.out]; exact HOF.out, rfl, rfl⟩⟩
end Go.Proofs.YthlmgookaljgnaaGreatDoor
namespace Go.Proofs.YthlmgookaljgnaaGreatDoor
open Go.RowKit Go.Shelf
set_option linter.unusedVariables false
set_option linter.unusedSimpArgs false

theorem smake96 (w : World) : (Instr.makeSlice 39 (.int .i64 96) (.int .i64 96)).run Tryz.prog w = .ok (.slice (some ⟨w.heap.size, 0, none⟩) 96 96) (w.alloc (.cells (bytesV (zsL 96)).toArray 5)) := by kernel_rfl
theorem smake95 (w : World) : (Instr.makeSlice 39 (.int .i64 95) (.int .i64 95)).run Tryz.prog w = .ok (.slice (some ⟨w.heap.size, 0, none⟩) 95 95) (w.alloc (.cells (bytesV (zsL 95)).toArray 5)) := by kernel_rfl
/-- the groups of sane -/
def gAB : List ByteArray := [⟨#[97, 98]⟩, ⟨#[]⟩]
theorem need_AB : needOf gAB = 70 := by decide +kernel
theorem need_96 : needOf [zs 96] = 131 := by decide +kernel
theorem need_x : needOf [⟨#[120]⟩] = 35 := by decide +kernel
theorem need_95 : needOf [zs 95] = 130 := by decide +kernel

theorem appJ_AB {d : DV} (hI : JInv 200 d []) (hC : Calm d) : ∃ d', appJ 200 false (growAll tv0 []) d gAB = (0, false, growAll tv0 gAB, d') ∧ JInv 200 d' gAB ∧ Calm d' :=
  appJ_fits (l := []) hI hC (by decide) (by rw [need_AB]; decide)
theorem appJ_96 {d : DV} : appJ 200 false (growAll tv0 gAB) d [zs 96] = (261, false, growAll tv0 gAB, d) :=
  appJ_full (by simp [zs_size]) (by rw [need_AB, need_96]; decide)
theorem appJ_95 {d : DV} (hI : JInv 200 d gAB) (hC : Calm d) : ∃ d', appJ 200 false (growAll tv0 gAB) d [zs 95] = (0, false, growAll tv0 (gAB ++ [zs 95]), d') ∧ JInv 200 d' (gAB ++ [zs 95]) ∧ Calm d' :=
  appJ_fits hI hC (by simp [zs_size]) (by rw [need_AB, need_95]; decide)
theorem size_AB : (growAll tv0 gAB).size = 70 := by rw [growAll_len, need_AB]
theorem size_all : (growAll tv0 (gAB ++ [zs 95])).size = 200 := by rw [growAll_len, needOf_append, need_AB, need_95]

set_option maxRecDepth 100000 in
set_option maxHeartbeats 4000000 in
theorem saneJ_any (w : World) (hR : RoundLaid w) (a : Addr) (hD : DamLaid a w) : Calls Tryz.prog 5 #[] w fun e w' => e = .returned (.bool true) ∧ Below w.heap.size w w' := by
  have HR := Lib.hid hR
  have HD := Lib.hid hD
  clear hR hD
  go_enter Tryz.func5, Tryz.ntmps5
  go_wp2_with fail
  refine (newF w 200 (by decide) (by decide)).mono ?_
  rintro e w1 ⟨bd, rfl, ⟨F1, hD1, hF1⟩, hB1⟩
  have HD1 := Lib.hid hD1
  have HF1 := Lib.hid hF1
  have HB1 := Lib.hid hB1
  clear hD1 hF1 hB1
  go_wp2_with fail
  refine (OpenS HD1.out HF1.out HB1.out rfl (by decide) HR.out a HD.out (JInv.new 200)).mono ?_
  rintro e w2 ⟨jb, G2, rfl, h2, -, -⟩
  have H2 := Lib.hid h2
  clear h2 HD1 HF1 HB1
  go_wp2_with (first
    | (go_at_call 16
       refine (RecordsS H2.out).mono ?_
       rintro e w3 ⟨A3, C3, rfl, hO3, hB3⟩
       have H3 := Lib.hid (H2.out.below hB3)
       clear hO3 hB3)
    | (go_at_call 17
       refine (RoomS H3.out 200 rfl).mono ?_
       rintro e w4 ⟨rfl, hB4⟩
       have H4 := Lib.hid (H3.out.below hB4)
       clear hB4)
    | fail)
  obtain ⟨d5, he5, hI5, hC5⟩ := appJ_AB (JInv.new 200) ⟨rfl, rfl, rfl⟩
  refine (AppendS (H4.out.alloc _) HR.out (by decide) _ gAB (SL_own (own_lit w4 gAB 0 (Nat.zero_le _) (by decide))) (by decide) (by decide) (by decide) he5).mono ?_
  rintro e w5 ⟨rfl, G5, h5, -⟩
  have H5 := Lib.hid h5
  have I5 := Lib.hid (And.intro hI5 hC5)
  clear h5 hI5 hC5 he5 H2 H3 H4
  have hm96 := smake96
  have hm95 := smake95
  have hcv : ∀ W : World, (convert 39 9 (.slice (some ⟨W.heap.size, 0, none⟩) 96 96)).run Tryz.prog (W.alloc (.cells (bytesV (zsL 96)).toArray 5)) = .ok (.string (zs 96)) (W.alloc (.cells (bytesV (zsL 96)).toArray 5)) := fun W => sconv (allocAt _ rfl) (by decide)
  go_wp2_with fail
  refine (AppendS (H5.out.alloc (.cells (bytesV (zsL 96)).toArray 5) |>.alloc _) HR.out (by decide) _ [zs 96] (SL_at _ [zs 96] _ 1 (by simp) rfl (by decide)) (by decide) (by simp [zs_size]) (by rw [I5.out.2.pe]; decide) appJ_96).mono ?_
  rintro e w6 ⟨rfl, G6, h6, -⟩
  have H6 := Lib.hid h6
  clear h6 H5
  go_wp2_with fail
  refine (RoomS H6.out 130 (by rw [need_AB])).mono ?_
  rintro e w7 ⟨rfl, hB7⟩
  have H7 := Lib.hid (H6.out.below hB7)
  clear hB7 H6 hcv
  have hcv : ∀ W : World, (convert 39 9 (.slice (some ⟨W.heap.size, 0, none⟩) 95 95)).run Tryz.prog (W.alloc (.cells (bytesV (zsL 95)).toArray 5)) = .ok (.string (zs 95)) (W.alloc (.cells (bytesV (zsL 95)).toArray 5)) := fun W => sconv (allocAt _ rfl) (by decide)
  go_wp2_with fail
  obtain ⟨d8, he8, hI8, hC8⟩ := appJ_95 I5.out.1 I5.out.2
  refine (AppendS (H7.out.alloc (.cells (bytesV (zsL 95)).toArray 5) |>.alloc _) HR.out (by decide) _ [zs 95] (SL_at _ [zs 95] _ 1 (by simp) rfl (by decide)) (by decide) (by simp [zs_size]) (by rw [I5.out.2.pe]; decide) he8).mono ?_
  rintro e w8 ⟨rfl, G8, h8, -⟩
  have H8 := Lib.hid h8
  have I8 := Lib.hid (And.intro hI8 hC8)
  clear h8 hI8 hC8 he8 I5 H7 hcv hm96 hm95
  obtain ⟨F8, f1, f2, f3⟩ := H8.out.disk
  have D8 := Lib.hid f1
  have D8n := Lib.hid f3
  clear f1 f2 f3
  go_wp2_with fail
  refine (OpenS D8.out D8n.out H8.out.bel I8.out.2.off (by decide) HR.out a HD.out I8.out.1).mono ?_
  rintro e w9 ⟨kb, G9, rfl, h9, -, hB9⟩
  have K9 := Lib.hid h9
  have H9 := Lib.hid (H8.out.below hB9)
  have D9 := Lib.hid (D8.out.upd (Upd.of_below (S := fun _ => False) hB9) (fun _ _ f => f))
  clear h9 hB9 H8 D8
  go_wp2_with fail
  refine (writeF D9.out I8.out.2.off 0 ⟨#[2]⟩ (by decide) (by rw [I8.out.2.pe]; decide)).mono ?_
  rintro e w10 ⟨rfl, F10, hD10, hm10⟩
  obtain ⟨GH, hH10, -⟩ := H9.out.moved D9.out hD10 hm10
  obtain ⟨GK, hK10, -⟩ := K9.out.moved D9.out hD10 hm10
  have D10 := Lib.hid hD10
  have H10 := Lib.hid hH10
  have K10 := Lib.hid hK10
  clear hD10 hm10 hH10 hK10 H9 K9 D9
  have hbad : loadP (diskB (writeD d8 0 ⟨#[2]⟩)) (200 + 1) tv0 = none := by
    refine loadP_bad _ _ 2 (d8.vi.drop 1) ?_ (by decide) (by decide)
    show splice d8.vi 0 [2] = _
    unfold splice; simp
  have hoff : (writeD d8 0 ⟨#[2]⟩).off = false := by show usedOff false d8.left = false; rw [I8.out.2.left]; rfl
  have HBAD := Lib.hid (And.intro hbad hoff)
  clear hbad hoff
  go_wp2_with fail
  refine (Open_bad D10.out HBAD.out.2 (by decide) (H10.out.round HR.out) a (H10.out.dam HD.out) HBAD.out.1).mono ?_
  rintro e w11 ⟨rfl, hB11⟩
  have H11 := Lib.hid (H10.out.below hB11)
  have K11 := Lib.hid (K10.out.below hB11)
  clear hB11 H10 K10 D10 HBAD
  go_wp2_with (first
    | (go_at_call 24; refine (Open_nil _).mono ?_; rintro e w' ⟨rfl, rfl⟩)
    | (go_at_call 17
       refine (RoomS H11.out 0 (by rw [needOf_append, need_AB, need_95])).mono ?_
       rintro e w12 ⟨rfl, hB12⟩
       have K12 := Lib.hid (K11.out.below hB12)
       have B12 := Lib.hid (H11.out.bel.trans (hB12.mono H11.out.bel.size))
       clear hB12)
    | (go_at_call 16
       have hno : K12 = K12 := rfl
       with_reducible refine Calls.mono (RecordsS K12.out) ?_
       rintro e w13 ⟨A13, C13, rfl, -, hB13⟩
       have K13 := Lib.hid (K12.out.below hB13)
       have B13 := Lib.hid (B12.out.trans (hB13.mono B12.out.size))
       clear hB13 hno K12)
    | (go_at_call 16
       with_reducible refine Calls.mono (RecordsS K13.out) ?_
       rintro e w14 ⟨A14, C14, rfl, hO14, hB14⟩
       have B14 := Lib.hid (B13.out.trans (hB14.mono B13.out.size))
       obtain ⟨g14, c14, e14, -, -, -, -, hx14⟩ := own_form hO14 (by decide)
       injection e14 with e14a e14b e14c
       subst e14a e14c
       have hc14 : w14.cell? ⟨g14, 0, none⟩ = some (.string ⟨#[97, 98]⟩) := hx14 0 _ rfl
       clear hB14 hO14 hx14 e14b)
    | fail)
  go_ret
  exact ⟨rfl, B14.out⟩
end Go.Proofs.YthlmgookaljgnaaGreatDoor
namespace Go.Proofs.YthlmgookaljgnaaGreatDoor

theorem compactUpTo_sorted (d : Array Int) (hs : ∀ i j, i < j → j < d.size → d[i]! ≤ d[j]!) : ∀ m, m ≤ d.size →
    (Lib.compactUpTo d m).Pairwise (· < ·) ∧ (∀ x, x ∈ Lib.compactUpTo d m ↔ ∃ j, j < m ∧ d[j]! = x)
  | 0, _ => by simp [Lib.compactUpTo]
  | m + 1, hm => by
    obtain ⟨h1, h2⟩ := compactUpTo_sorted d hs m (by omega)
    rw [Lib.compactUpTo_succ]
    by_cases hk : Lib.keeps d m = true
    · rw [if_pos hk]
      have hne : m ≠ 0 → d[m - 1]! < d[m]! := fun h0 => by
        have h := hs (m - 1) m (by omega) (by omega)
        have hn : d[m]! ≠ d[m - 1]! := by
          unfold Lib.keeps at hk
          simp [h0] at hk
          exact hk
        omega
      refine ⟨List.pairwise_append.2 ⟨h1, by simp, fun x hx y hy => ?_⟩, fun x => ?_⟩
      · obtain ⟨j, hj, rfl⟩ := (h2 x).1 hx
        simp at hy; subst hy
        have h0 : m ≠ 0 := by omega
        have := hne h0
        rcases Nat.lt_or_ge j (m - 1) with h | h
        · have := hs j (m - 1) h (by omega); omega
        · obtain rfl : j = m - 1 := by omega
          exact this
      · simp only [List.mem_append, List.mem_singleton, h2]
        constructor
        · rintro (⟨j, hj, e⟩ | rfl)
          · exact ⟨j, by omega, e⟩
          · exact ⟨m, by omega, rfl⟩
        · rintro ⟨j, hj, e⟩
          rcases Nat.lt_or_ge j m with h | h
          · exact .inl ⟨j, h, e⟩
          · obtain rfl : j = m := by omega
            exact .inr e.symm
    · rw [if_neg hk, List.append_nil]
      refine ⟨h1, fun x => ?_⟩
      rw [h2]
      constructor
      · rintro ⟨j, hj, e⟩; exact ⟨j, by omega, e⟩
      · rintro ⟨j, hj, e⟩
        rcases Nat.lt_or_ge j m with h | h
        · exact ⟨j, h, e⟩
        · obtain rfl : j = m := by omega
          have hk' : j ≠ 0 ∧ d[j]! = d[j - 1]! := by
            unfold Lib.keeps at hk
            simp at hk
            exact hk
          exact ⟨j - 1, by omega, by rw [← e]; exact hk'.2.symm⟩

/-- which numbers are none of a pending write -/
def outB (m : Nat) (i : Int) : Bool := decide (i < 0 ∨ (m : Int) ≤ i)

/-- the numbers of the pending writes that survive, in ascending order, as the program reckons them -/
def ordOf (keep : List Int) (m : Nat) : List Int := (Lib.compact (keep.mergeSort fun x y => decide (x ≤ y))).filter fun i => !outB m i
/-- .. and as they are meant -/
def survN (keep : List Int) (m : Nat) : List Nat := (List.range m).filter fun i => decide ((i : Int) ∈ keep)

theorem asc_ext : ∀ {a b : List Int}, a.Pairwise (· < ·) → b.Pairwise (· < ·) → (∀ x, x ∈ a ↔ x ∈ b) → a = b
  | [], [], _, _, _ => rfl
  | [], y :: b, _, _, h => by have := (h y).2 (by simp); simp at this
  | x :: a, [], _, _, h => by have := (h x).1 (by simp); simp at this
  | x :: a, y :: b, ha, hb, h => by
    obtain ⟨ha1, ha2⟩ := List.pairwise_cons.1 ha
    obtain ⟨hb1, hb2⟩ := List.pairwise_cons.1 hb
    have hxy : x = y := by
      have h1 := (h x).1 (by simp)
      have h2 := (h y).2 (by simp)
      rcases List.mem_cons.1 h1 with e | h1
      · exact e
      · rcases List.mem_cons.1 h2 with e | h2
        · exact e.symm
        · have := ha1 y h2; have := hb1 x h1; omega
    subst hxy
    rw [asc_ext ha2 hb2 fun z => ?_]
    have hz := h z
    constructor
    · intro hm
      rcases List.mem_cons.1 (hz.1 (by simp [hm])) with e | h'
      · subst e; exact absurd (ha1 z hm) (by omega)
      · exact h'
    · intro hm
      rcases List.mem_cons.1 (hz.2 (by simp [hm])) with e | h'
      · subst e; exact absurd (hb1 z hm) (by omega)
      · exact h'

theorem ordOf_eq (keep : List Int) (m : Nat) : ordOf keep m = (survN keep m).map fun (i : Nat) => (i : Int) := by
  have hsort : (keep.mergeSort fun x y => decide (x ≤ y)).Pairwise fun x y => x ≤ y := by
    have := List.pairwise_mergeSort (le := fun x y : Int => decide (x ≤ y)) (fun a b c h1 h2 => by simp at *; omega) (fun a b => by simp; omega) keep
    exact this.imp (by simp)
  generalize hL : (keep.mergeSort fun x y => decide (x ≤ y)) = L at hsort
  have hmem : ∀ x, x ∈ L ↔ x ∈ keep := fun x => by rw [← hL]; exact List.mem_mergeSort
  obtain ⟨h1, h2⟩ := compactUpTo_sorted L.toArray (fun i j hij hj => by
    have hj' : j < L.length := by simpa using hj
    rw [getElem!_pos L.toArray i (by simp; omega), getElem!_pos L.toArray j (by simpa using hj')]
    simp only [List.getElem_toArray]
    exact (List.pairwise_iff_getElem.1 hsort) i j (by omega) hj' hij) L.length (by simp)
  have h3 : ∀ x, x ∈ Lib.compact L ↔ x ∈ keep := fun x => by
    rw [show Lib.compact L = Lib.compactUpTo L.toArray L.length from rfl, h2, ← hmem]
    constructor
    · rintro ⟨j, hj, e⟩
      rw [getElem!_pos L.toArray j (by simpa using hj)] at e
      simp at e
      rw [← e]; exact List.getElem_mem hj
    · intro hx
      obtain ⟨j, hj, e⟩ := List.getElem_of_mem hx
      exact ⟨j, hj, by rw [getElem!_pos L.toArray j (by simpa using hj)]; simpa using e⟩
  refine asc_ext ?_ ?_ fun x => ?_
  · unfold ordOf; rw [hL]; exact List.Pairwise.filter _ h1
  · unfold survN
    rw [List.pairwise_map]
    exact (List.Pairwise.filter _ List.pairwise_lt_range).imp (fun h => by omega)
  · unfold ordOf survN
    rw [hL]
    simp only [List.mem_filter, h3, List.mem_map, List.mem_range, outB, Bool.not_eq_true', decide_eq_false_iff_not, decide_eq_true_eq]
    constructor
    · rintro ⟨hx, h⟩
      exact ⟨x.toNat, ⟨by omega, by rwa [Int.toNat_of_nonneg (by omega)]⟩, by omega⟩
    · rintro ⟨i, ⟨hi, hk⟩, rfl⟩
      exact ⟨hk, by omega⟩

/-- the first m bytes of a string -/
def takeB (s : ByteArray) (m : Nat) : ByteArray := ⟨(s.data.toList.take m).toArray⟩

/-- A content after writes. -/
def applyW (b : List UInt8) (ws : List (Nat × ByteArray)) : List UInt8 := ws.foldl (fun b p => splice b p.1 p.2.data.toList) b
theorem applyW_snoc (b : List UInt8) (ws : List (Nat × ByteArray)) (p : Nat × ByteArray) : applyW b (ws ++ [p]) = splice (applyW b ws) p.1 p.2.data.toList := by simp [applyW]
/-- The last one of the survivors torn. -/
def tornW (ws : List (Nat × ByteArray)) (torn : Int) : List (Nat × ByteArray) := ws.mapIdx fun k p => if k + 1 = ws.length ∧ 0 ≤ torn then (p.1, takeB p.2 torn.toNat) else p
/-- The survivors. -/
def survW (pe : List (Nat × ByteArray)) (keep : List Int) : List (Nat × ByteArray) := (survN keep pe.length).map fun i => pe[i]!

theorem survN_lt {keep : List Int} {m i : Nat} (h : i ∈ survN keep m) : i < m := by
  unfold survN at h; simpa using (List.mem_filter.1 h).1

end Go.Proofs.YthlmgookaljgnaaGreatDoor
namespace Go.Proofs.YthlmgookaljgnaaGreatDoor
open Go.RowKit
set_option linter.unusedVariables false

/-- The function value g with what it captured answers p, in this world. -/
def Answers (w : World) (g : Nat) (lb : Array Value) (p : Int → Bool) : Prop :=
  ∀ i : Int, Calls Tryz.prog g (#[.int .i64 i] ++ lb) w fun e w' => e = .returned (.bool (p i)) ∧ w = w'

/-- the numbers in a slice -/
def IntRow (w : World) (g : Nat) (zs : List Int) : Prop := ∀ j, (h : j < zs.length) → w.cell? ⟨g, j, none⟩ = some (.int .i64 zs[j])

/-- where the first number lies of which p holds; -1 -/
def idxZ (p : Int → Bool) (zs : List Int) : Int := match zs.findIdx? p with | some i => (i : Int) | none => -1

set_option maxHeartbeats 1000000 in
theorem IndexFunc_any (w : World) (g cap : Nat) (zs : List Int) (fn : Nat) (b : Addr) (p : Int → Bool) (hlen : zs.length ≤ 9223372036854775807) (hr : IntRow w g zs) (ha : Answers w fn #[.pointer (some b)] p)
    (hen : ∀ args w, (callFunc fn args).run Tryz.prog w = .ok (.enter fn args) w) :
    Calls Tryz.prog 87 #[.slice (some ⟨g, 0, none⟩) zs.length cap, .func (.func fn) #[] #[.pointer (some b)]] w fun e w' =>
      e = .returned (.int .i64 (idxZ p zs)) ∧ w = w' := by
  obtain ⟨n, hn⟩ : ∃ n, zs.length = n := ⟨_, rfl⟩
  have HA := Lib.hid ha
  have HR := Lib.hid hr
  have HN := Lib.hid hn
  rw [hn] at hlen ⊢
  clear ha hr hn
  go_enter Tryz.func87, Tryz.ntmps87
  go_wp2
  go_loop [8] (fun i => ∃ k : Nat, k ≤ n ∧ i = .int .i64 k ∧ Hid (∀ j, (h : j < zs.length) → j < k → p zs[j] = false)) (fun i => n - (intOf i).toNat)
  case atStart => exact ⟨0, Nat.zero_le _, rfl, fun j _ h => by omega⟩
  case round =>
    obtain ⟨k, hk, rfl, hb⟩ := hrel
    by_cases hlt : k < n
    · have hk' : k < zs.length := by rw [HN.out]; exact hlt
      have c : w.cell? ⟨g, k, none⟩ = some (.int .i64 zs[k]) := HR.out k hk'
      obtain ⟨z, hz⟩ : ∃ z, zs[k] = z := ⟨_, rfl⟩
      rw [hz] at c
      have HZ := Lib.hid hz
      clear hz
      cases hp : p z with
      | true =>
        have hfin : idxZ p zs = k := by
          unfold idxZ
          rw [show zs.findIdx? p = some k from List.findIdx?_eq_some_iff_getElem.2 ⟨hk', by rw [HZ.out]; exact hp, fun j hj => by simp [hb.out j (by omega) hj]⟩]
        have HF := Lib.hid hfin
        have HP := Lib.hid hp
        clear hp hfin
        go_wp2_with fail
        refine (HA.out z).mono ?_
        rintro e w' ⟨rfl, rfl⟩
        rw [HP.out]
        go_wp2_with fail
        go_ret
        rw [HF.out]
        exact ⟨rfl, rfl⟩
      | false =>
        have HP := Lib.hid hp
        clear hp
        go_wp2_with fail
        refine (HA.out z).mono ?_
        rintro e w' ⟨rfl, rfl⟩
        rw [HP.out]
        go_wp2_with fail
        go_round
        case rel => exact ⟨k + 1, by omega, by simp, fun j hj hjk => by
          rcases Nat.lt_or_ge j k with h | h
          · exact hb.out j hj h
          · obtain rfl : j = k := by omega
            rw [HZ.out]; exact HP.out⟩
        case measure => simp [intOf]; omega
    · obtain rfl : k = n := by omega
      have hfin : idxZ p zs = -1 := by
        unfold idxZ
        have e : zs.findIdx? p = none := by
          rw [List.findIdx?_eq_none_iff]
          intro x hx
          obtain ⟨j, hj, rfl⟩ := List.getElem_of_mem hx
          exact hb.out j hj (by rw [← HN.out]; exact hj)
        rw [e]
      have HF := Lib.hid hfin
      clear hfin
      go_wp2
      go_ret
      rw [HF.out]
      exact ⟨rfl, rfl⟩
def intsW (zs : List Int) : List Value := zs.map (Value.int .i64)
theorem intsV_set (zs : List Int) (tl : List Value) (i : Nat) (x : Int) (h : i < zs.length) : (intsW zs ++ tl).toArray.setIfInBounds i (.int .i64 x) = (intsW (zs.set i x) ++ tl).toArray := by
  simp [intsW, List.map_set, h]
theorem intRow_of {w : World} {g : Nat} {zs : List Int} {tl : List Value} {t : TypeId} {fr : Nat × Nat} (h : w.heap[g]? = some (.cells (intsW zs ++ tl).toArray t fr)) : IntRow w g zs := fun j hj => by
  rw [cellOf h]; simp [intsW, List.getElem?_append, hj]

theorem Tryz.zeroInt : ∀ w, (zeroValue 3).run Tryz.prog w = .ok (.int .i64 0) w := fun _ => by kernel_rfl

/-- DeleteFunc's loop: what stands behind j rounds. -/
theorem del_step {zs ys : List Int} {p : Int → Bool} {i j n : Nat} (hn : zs.length = n) (hy : ys.length = n) (hij : i ≤ j) (hj : j < n) (h1 : ys.take i = (zs.take j).filter (fun x => !p x)) (h2 : ys.drop j = zs.drop j) :
    ys[j]? = zs[j]? ∧ (p (zs[j]'(by omega)) = true → ys.take i = (zs.take (j + 1)).filter (fun x => !p x) ∧ ys.drop (j + 1) = zs.drop (j + 1)) ∧
    (p (zs[j]'(by omega)) = false → (ys.set i (zs[j]'(by omega))).take (i + 1) = (zs.take (j + 1)).filter (fun x => !p x) ∧ (ys.set i (zs[j]'(by omega))).drop (j + 1) = zs.drop (j + 1)) := by
  have hyj : ys[j]? = zs[j]? := by
    have := congrArg (fun l : List Int => l[0]?) h2
    simpa using this
  have hd : ys.drop (j + 1) = zs.drop (j + 1) := by
    have := congrArg List.tail h2
    simpa using this
  have htk : zs.take (j + 1) = zs.take j ++ [zs[j]'(by omega)] := by rw [List.take_succ_eq_append_getElem (by omega)]
  refine ⟨hyj, fun hp => ⟨?_, hd⟩, fun hp => ⟨?_, ?_⟩⟩
  · rw [htk, List.filter_append, h1]; simp [hp]
  · rw [htk, List.filter_append, ← h1]
    rw [List.take_succ_eq_append_getElem (by simp; omega)]
    rw [List.take_set_of_le (Nat.le_refl _)]
    simp [hp]
  · rw [List.drop_set_of_lt (by omega)]; exact hd

set_option maxHeartbeats 1000000 in
theorem DeleteFunc_any (w : World) (g cap : Nat) (zs : List Int) (tl : List Value) (fn : Nat) (b : Addr) (p : Int → Bool) (hlen : zs.length ≤ 4611686018427387904) (hcap : zs.length ≤ cap) (htl : tl.length = cap - zs.length) (hc63 : cap ≤ 9223372036854775807)
    (hr : w.heap[g]? = some (.cells (intsW zs ++ tl).toArray 3 (0, 0))) (ha : ∀ W, Upd (· = g) w W → Answers W fn #[.pointer (some b)] p)
    (hen : ∀ args w, (callFunc fn args).run Tryz.prog w = .ok (.enter fn args) w) :
    Calls Tryz.prog 65 #[.slice (some ⟨g, 0, none⟩) zs.length cap, .func (.func fn) #[] #[.pointer (some b)]] w fun e w' =>
      e = .returned (.slice (some ⟨g, 0, none⟩) (zs.filter fun x => !p x).length cap) ∧ IntRow w' g (zs.filter fun x => !p x) ∧ Upd (· = g) w w' := by
  obtain ⟨n, hn⟩ : ∃ n, zs.length = n := ⟨_, rfl⟩
  have IX := Lib.hid (IndexFunc_any w g cap zs fn b p (by omega) (intRow_of hr) (ha w (Upd.refl _ _)) hen)
  have HA := Lib.hid ha
  have HR := Lib.hid hr
  have HN := Lib.hid hn
  have HT := Lib.hid htl
  rw [hn] at hlen hcap ⊢
  clear ha hr hn htl
  cases hix : zs.findIdx? p with
  | none =>
    have hfin : idxZ p zs = -1 := by unfold idxZ; rw [hix]
    have hfil : (zs.filter fun x => !p x) = zs := by
      rw [List.filter_eq_self]
      intro x hx
      simp [(List.findIdx?_eq_none_iff.1 hix) x hx]
    have HF := Lib.hid hfin
    have HI := Lib.hid hfil
    clear hfin hfil hix
    go_enter Tryz.func65, Tryz.ntmps65
    go_wp2_with fail
    have IX' := IX.out
    rw [HN.out] at IX'
    refine IX'.mono ?_
    clear IX'
    rintro e w' ⟨rfl, rfl⟩
    rw [HF.out]
    go_wp2_with fail
    go_ret
    rw [HI.out, HN.out]
    exact ⟨rfl, intRow_of HR.out, Upd.refl _ _⟩
  | some i0 =>
    have hfin : idxZ p zs = i0 := by unfold idxZ; rw [hix]
    obtain ⟨hi0, hpi, hbef⟩ := List.findIdx?_eq_some_iff_getElem.1 hix
    have hi0n : i0 < n := by rw [← HN.out]; exact hi0
    have hst : zs.take i0 = (zs.take (i0 + 1)).filter (fun x => !p x) := by
      rw [List.take_succ_eq_append_getElem hi0, List.filter_append]
      have : (zs.take i0).filter (fun x => !p x) = zs.take i0 := by
        rw [List.filter_eq_self]
        intro x hx
        obtain ⟨j, hj, rfl⟩ := List.getElem_of_mem hx
        have hj' : j < i0 := by rw [List.length_take] at hj; omega
        rw [List.getElem_take]
        have := hbef j hj'
        simpa using this
      rw [this]
      simp [hpi]
    have HF := Lib.hid hfin
    have HS := Lib.hid hst
    have hb0 : ((i0 : Int) == -1) = false := by simp
    clear hfin hst hix hbef hpi
    go_enter Tryz.func65, Tryz.ntmps65
    go_wp2_with fail
    have IX' := IX.out
    rw [HN.out] at IX'
    refine IX'.mono ?_
    clear IX'
    rintro e w' ⟨rfl, rfl⟩
    rw [HF.out]
    go_wp2_with fail
    go_loopw [5, 6] (fun vi vj wr => ∃ (i j : Nat) (ys : List Int), i < j ∧ j ≤ n ∧ vi = .int .i64 i ∧ vj = .int .i64 j ∧ Hid (ys.length = n) ∧ Hid (ys.take i = (zs.take j).filter (fun x => !p x)) ∧ Hid (ys.drop j = zs.drop j) ∧
        Hid (wr.heap[g]? = some (.cells (intsW ys ++ tl).toArray 3 (0, 0))) ∧ Hid (Upd (· = g) w wr))
      (fun _ vj _ => n - (intOf vj).toNat)
    case atStart => exact ⟨i0, i0 + 1, zs, by omega, by omega, rfl, by simp, HN.out, HS.out, rfl, HR.out, Upd.refl _ _⟩
    case round =>
      obtain ⟨i, j, ys, hij, hjn, rfl, rfl, hy, h1, h2, hb, hU⟩ := hrel
      by_cases hlt : j < n
      · have hjz : j < zs.length := by rw [HN.out]; exact hlt
        obtain ⟨q1, q2, q3⟩ := del_step (i := i) HN.out hy.out (by omega) hlt h1.out h2.out
        have c : wr.cell? ⟨g, j, none⟩ = some (.int .i64 zs[j]) := by
          have hjy : j < ys.length := by rw [hy.out]; exact hlt
          rw [intRow_of hb.out j hjy]
          rw [List.getElem?_eq_getElem hjy, List.getElem?_eq_getElem hjz] at q1
          rw [Option.some.inj q1]
        obtain ⟨ci, c'⟩ : ∃ ci, wr.cell? ⟨g, i, none⟩ = some (.int .i64 ci) := ⟨_, intRow_of hb.out i (by rw [hy.out]; omega)⟩
        have f : wr.frozen? ⟨g, i, none⟩ = false := frozenOf hb.out _
        obtain ⟨z, hz⟩ : ∃ z, zs[j] = z := ⟨_, rfl⟩
        rw [hz] at c q2 q3
        have Q2 := Lib.hid q2
        have Q3 := Lib.hid q3
        clear q1 q2 q3 hz
        have AW := Lib.hid (HA.out wr hU.out)
        cases hp : p z with
        | true =>
          have HP := Lib.hid hp
          clear hp
          go_wp2_with fail
          refine (AW.out z).mono ?_
          rintro e w' ⟨rfl, rfl⟩
          rw [HP.out]
          go_wp2_with fail
          go_roundw
          case rel => exact ⟨i, j + 1, ys, by omega, by omega, rfl, by simp, hy, (Q2.out HP.out).1, (Q2.out HP.out).2, hb, hU⟩
          case measure => simp [intOf]; omega
        | false =>
          have HP := Lib.hid hp
          clear hp
          go_wp2_with fail
          refine (AW.out z).mono ?_
          rintro e w' ⟨rfl, rfl⟩
          rw [HP.out]
          go_wp2_with fail
          go_roundw
          case rel =>
            refine ⟨i + 1, j + 1, ys.set i z, by omega, by omega, by simp, by simp, ?_, (Q3.out HP.out).1, (Q3.out HP.out).2, ?_, hU.out.setCell _ _ (.inl rfl)⟩
            · show _ = _
              rw [List.length_set]; exact hy.out
            · show _ = _
              rw [setOf_ hb.out, intsV_set _ _ _ _ (by rw [hy.out]; omega)]
          case measure => simp [intOf]; omega
      · obtain rfl : j = n := by omega
        have hfl : (zs.filter fun x => !p x) = ys.take i := by
          rw [h1.out, ← HN.out, List.take_length]
        have hfl2 : (zs.filter fun x => !p x).length = i := by
          rw [hfl, List.length_take, hy.out]; omega
        have FL := Lib.hid hfl
        have FL2 := Lib.hid hfl2
        clear hfl hfl2
        have hin : i ≤ j := by omega
        have hic : ¬ cap = i := by omega
        go_wp2_with (with_reducible refine wpList_clear_sub rfl (.tmp 38) 50 rfl 3 Tryz.underlying50 (.int .i64 0) Tryz.zeroInt rfl rfl (some ⟨g, i, none⟩) (j - i) (cap - i) rfl g i (intsW ys ++ tl) 3 hb.out (fun _ => rfl) (by rw [List.length_append, intsW, List.length_map, hy.out]; omega) ?_
                     intro w2 h3 hU3)
        go_ret
        rw [FL2.out, FL.out]
        refine ⟨rfl, ?_, hU.out.grown hU3.out (fun k e => .inl (by injection e with e; exact e.symm))⟩
        intro m hm
        rw [cellOf h3.out]
        have hmi : m < i := by rw [List.length_take] at hm; omega
        have hmy : m < ys.length := by rw [hy.out]; omega
        rw [List.getElem?_toArray, splice_get _ _ _ _ (by rw [List.length_append, intsW, List.length_map, hy.out, List.length_replicate]; omega), if_pos hmi]
        simp [intsW, List.getElem?_append, hmy, List.getElem_take]
end Go.Proofs.YthlmgookaljgnaaGreatDoor
namespace Go.Proofs.YthlmgookaljgnaaGreatDoor
open Go.RowKit
set_option linter.unusedVariables false

def pickZ (c n : Int) : Int := (if c < 0 then -(c + 1) else c) % n
theorem pickZ_lo (c n : Int) (h : 0 < n) : 0 ≤ pickZ c n := Int.emod_nonneg _ (by omega)
theorem pickZ_hi (c n : Int) (h : 0 < n) : pickZ c n < n := Int.emod_lt_of_pos _ h

theorem takeB_all (s : ByteArray) (m : Nat) (h : s.size ≤ m) : takeB s m = s := by
  unfold takeB
  rw [List.take_of_length_le (by rw [← Lib.size_eq]; exact h)]
theorem takeB_extract (s : ByteArray) (m : Nat) : s.extract 0 m = takeB s m := by
  unfold takeB
  apply ByteArray.ext
  apply Array.toList_inj.1
  simp [ByteArray.data_extract, Array.toList_extract]
theorem takeB_size (s : ByteArray) (m : Nat) : (takeB s m).size = min m s.size := by
  rw [Lib.size_eq, Lib.size_eq s]
  exact List.length_take
theorem takeB_list (s : ByteArray) (m : Nat) : (takeB s m).data.toList = s.data.toList.take m := rfl

end Go.Proofs.YthlmgookaljgnaaGreatDoor
namespace Go.Proofs.YthlmgookaljgnaaGreatDoor
open Go.RowKit Go.Shelf
set_option linter.unusedVariables false

attribute [local go_sem] Oper.semAt_some

/-- What has come when k rounds are over. -/
def upto {α : Type} (f : Nat → α) (k : Nat) : List α := (List.range k).map f
theorem upto_succ {α : Type} (f : Nat → α) (k : Nat) : upto f (k + 1) = upto f k ++ [f k] := by simp [upto, List.range_succ]
theorem upto_length {α : Type} (f : Nat → α) (k : Nat) : (upto f k).length = k := by simp [upto]
theorem upto_all (zs : List Int) : upto (fun j => zs[j]?.getD 0) zs.length = zs := by
  apply List.ext_getElem
  · simp [upto]
  · intro i h1 h2
    simp [upto, h2]
theorem upto_take (zs : List Int) {k : Nat} (hk : k ≤ zs.length) : upto (fun j => zs[j]?.getD 0) k = zs.take k := by
  apply List.ext_getElem
  · simp [upto, hk]
  · intro i h1 h2
    have : i < zs.length := by simp [upto] at h1; omega
    simp [upto, this]

set_option maxRecDepth 100000 in
set_option maxHeartbeats 2000000 in
theorem values1_in (n : Nat) (hn : 1 ≤ n) (l Bs n₀ b off len cap : Nat) (zs : List Int) (hreach : len * 8 ≤ 140737488351232) (hb : b < n₀) (J Jx : List Int → World → Prop)
    (hY : ∀ pre x W, J pre W → pre.length < len → YieldAt Fence.wide (n - 1) Tryz.prog l #[.int .i64 x] W fun e W' =>
      (e = .returned (.bool true) ∧ J (pre ++ [x]) W' ∧ Below n₀ W W') ∨ (e = .returned (.bool false) ∧ Jx (pre ++ [x]) W'))
    (W : World) (hBs : W.cell? ⟨Bs, 0, none⟩ = some (.slice (some ⟨b, off, none⟩) len cap)) (hc : ∀ j, j < len → W.cell? ⟨b, off + j, none⟩ = some (.int .i64 (zs[j]?.getD 0))) (h0 : J [] W) :
    CallsIn Fence.wide n Tryz.prog 86 #[.func (.yield l) #[] #[], .pointer (some ⟨Bs, 0, none⟩)] W fun e W' => (∃ v, e = .returned v) ∧
      ((∃ ys, ys = upto (fun j => zs[j]?.getD 0) len ∧ J ys W') ∨ (∃ pre, (∃ k, k ≤ len ∧ pre = upto (fun j => zs[j]?.getD 0) k) ∧ Jx pre W')) := by
  refine callsIn_of_wp Tryz.func86 rfl trivial ?_ rfl
  simp only [Tryz.ntmps86, List.size_toArray, List.length_cons, List.length_nil, Nat.reduceAdd, Nat.reduceSub, Array.replicate_succ, Array.replicate_zero, List.push_toArray, List.append_toArray, List.nil_append, List.cons_append]
  gi_wp2
  gi_loopw [7] (fun i wr => ∃ k : Nat, k ≤ len ∧ i = .int .i64 k ∧ J (upto (fun j => zs[j]?.getD 0) k) wr ∧ Below n₀ W wr)
    (fun i _ => len - (intOf i).toNat)
  case atStart => exact ⟨0, Nat.zero_le _, rfl, h0, Below.refl _ _⟩
  case round =>
    obtain ⟨k, hk, rfl, hJs, hnx⟩ := hrel
    have hcx : k < len → wr.cell? ⟨b, off + k, none⟩ = some (.int .i64 (zs[k]?.getD 0)) := fun h => (hnx.cell (p := ⟨b, off + k, none⟩) hb).trans (hc k h)
    by_cases hlt : k < len
    · obtain ⟨fn, tmps, assign, body, hy, hR⟩ := hY _ (zs[k]?.getD 0) wr hJs (by rw [upto_length]; exact hlt)
      have hcx' := hcx hlt
      gi_wp2
      refine hR.mono ?_
      rintro e W3 (⟨rfl, hJ3, hk3⟩ | ⟨rfl, hJx3⟩)
      · gi_wp2
        go_roundw
        case rel => exact ⟨k + 1, by omega, by simp, by rw [upto_succ]; exact hJ3, hnx.trans hk3⟩
        case measure => simp [intOf]; omega
      · gi_wp2
        refine bodyPost_ret (results_none rfl _ _ _) rfl ?_
        exact ⟨⟨_, rfl⟩, .inr ⟨_, ⟨k + 1, by omega, (upto_succ _ _).symm⟩, hJx3⟩⟩
    · obtain rfl : k = len := by omega
      gi_wp2
      go_end0
      exact ⟨⟨_, rfl⟩, .inl ⟨_, rfl, hJs⟩⟩

/-- The slice value sv holds the numbers zs, in a block below n₀; or it is nil and there are none. -/
def nilish : Value → Bool
  | .slice _ 0 _ => true
  | _ => false
theorem nilish_form {v : Value} (h : nilish v = true) : ∃ a c, v = .slice a 0 c := by
  unfold nilish at h
  split at h
  · exact ⟨_, _, rfl⟩
  · cases h
def IntsAt (n₀ : Nat) (W : World) (sv : Value) (zs : List Int) : Prop :=
  (nilish sv = true ∧ zs = []) ∨ ∃ b off cap, sv = .slice (some ⟨b, off, none⟩) zs.length cap ∧ b < n₀ ∧ ∀ j, j < zs.length → W.cell? ⟨b, off + j, none⟩ = some (.int .i64 (zs[j]?.getD 0))
theorem IntsAt.below {n₀ : Nat} {A B : World} (h : Below n₀ A B) {sv : Value} {zs : List Int} : IntsAt n₀ A sv zs → IntsAt n₀ B sv zs
  | .inl e => .inl e
  | .inr ⟨b, off, cap, e, hb, hc⟩ => .inr ⟨b, off, cap, e, hb, fun j hj => (h.cell (p := ⟨b, off + j, none⟩) hb).trans (hc j hj)⟩

set_option maxRecDepth 100000 in
set_option maxHeartbeats 1000000 in
theorem values1_nil_in (n : Nat) (l Bs : Nat) (J : List Int → World → Prop) (W : World) (va : Option Addr) (vc : Nat) (hBs : W.cell? ⟨Bs, 0, none⟩ = some (.slice va 0 vc)) (h0 : J [] W) :
    CallsIn Fence.wide n Tryz.prog 86 #[.func (.yield l) #[] #[], .pointer (some ⟨Bs, 0, none⟩)] W fun e W' => (∃ v, e = .returned v) ∧ J [] W' := by
  refine callsIn_of_wp Tryz.func86 rfl trivial ?_ rfl
  simp only [Tryz.ntmps86, List.size_toArray, List.length_cons, List.length_nil, Nat.reduceAdd, Nat.reduceSub, Array.replicate_succ, Array.replicate_zero, List.push_toArray, List.append_toArray, List.nil_append, List.cons_append]
  gi_wp2
  gi_loopw [7] (fun i wr => i = .int .i64 0 ∧ J [] wr) (fun _ _ => 0)
  case atStart => exact ⟨rfl, h0⟩
  case round =>
    obtain ⟨rfl, hJs⟩ := hrel
    gi_wp2
    go_end0
    exact ⟨⟨_, rfl⟩, hJs⟩

theorem values_stops (n : Nat) (hn : 1 ≤ n) (Bs n₀ : Nat) (sv : Value) (zs : List Int) (hreach : zs.length * 8 ≤ 140737488351232) (w : World) (hBs : Bs < w.heap.size) (hn₀ : n₀ ≤ w.heap.size)
    (hc : w.cell? ⟨Bs, 0, none⟩ = some sv) (hI : IntsAt n₀ w sv zs) :
    SeqStopsK Fence.wide n Tryz.prog 86 #[.pointer (some ⟨Bs, 0, none⟩)] (fun x : Int => #[Value.int .i64 x]) (Below n₀) (fun ys => ys = zs) (fun pre => pre <+: zs) zs.length w := fun l J Jx W hW _ _ hY h0 => by
  have hc' := (hW.cell (p := ⟨Bs, 0, none⟩) hBs).trans hc
  rcases hI.below (hW.mono hn₀) with ⟨hnil, rfl⟩ | ⟨b, off, cap, rfl, hb, hcs⟩
  · obtain ⟨va, vc, rfl⟩ := nilish_form hnil
    exact (values1_nil_in n l Bs J W va vc hc' h0).mono fun e W' ⟨he, hj⟩ => ⟨he, .inl ⟨_, rfl, hj⟩⟩
  · refine (values1_in n hn l Bs n₀ b off zs.length cap zs hreach hb J Jx hY W hc' hcs h0).mono ?_
    rintro e W' ⟨he, ⟨ys, rfl, hj⟩ | ⟨pre, ⟨k, hk, rfl⟩, hj⟩⟩
    · exact ⟨he, .inl ⟨_, upto_all zs, hj⟩⟩
    · exact ⟨he, .inr ⟨_, by rw [upto_take zs hk]; exact List.take_prefix _ _, hj⟩⟩

theorem Tryz.infoIntS : (Tryz.prog.info? 3).map (fun i => (i.zero, i.size, i.bytes)) = some (some (.int .i64 0), 1, 8) := by kernel_rfl

set_option maxRecDepth 100000 in
set_option maxHeartbeats 2000000 in
/-- slices.AppendSeq(nil, slices.Values(zs)) -/
theorem AppendSeq_any (Bs : Nat) (sv : Value) (zs : List Int) (hreach : zs.length * 8 ≤ 140737488351232) (w : World) (hBs : Bs < w.heap.size)
    (hc : w.cell? ⟨Bs, 0, none⟩ = some sv) (hI : IntsAt w.heap.size w sv zs) :
    Calls Tryz.prog 103 #[.slice none 0 0, .func (.func 86) #[] #[.pointer (some ⟨Bs, 0, none⟩)]] w fun e W' => ∃ v, e = .returned v ∧
      W'.ownsRow w.heap.size 3 1 v zs.length (zs.map (Value.int .i64)) ∧ Below w.heap.size w W' := by
  refine callsIn_wide (n := 9) |>.1 ?_
  obtain ⟨i0, hi, hz0, hz1, hz2⟩ := info_parts Tryz.infoIntS
  refine callsIn_of_wp_marks Tryz.func103 rfl trivial ?_ rfl
  simp only [Tryz.ntmps103, List.size_toArray, List.length_cons, List.length_nil, Nat.reduceAdd, Nat.reduceSub, Array.replicate_succ, Array.replicate_zero, List.push_toArray, List.append_toArray, List.nil_append, List.cons_append]
  gi_wp2
  have bO := Boxed.new w 50 (.slice none 0 0)
  have hB0 : Below w.heap.size w (w.alloc (.cells #[.slice none 0 0] 50)) := (Below.refl _ w).alloc (Nat.le_refl _) _
  refine wpIn_rangeFunc_ownG rfl (by omega) (gf := 86) (lb := #[.pointer (some ⟨Bs, 0, none⟩)]) rfl trivial (enters_of Tryz.func86 (by kernel_rfl) rfl)
    (values_stops 8 (by omega) Bs w.heap.size sv zs hreach (w.alloc (.cells #[.slice none 0 0] 50)) (by simp; omega) (by simp) (by rw [World.cell?_alloc_past _ _ _ hBs]; exact hc) (hI.below hB0)) belowK_t (belowK_b (by simp)) (Below.refl _ _) (fun _ => rfl)
    (fun (pre : List Int) W => (∃ v, Boxed W w.heap.size 50 v ∧ W.ownsRow w.heap.size 3 1 v pre.length (pre.map (Value.int .i64)) ∧ True) ∧ Below w.heap.size w W)
    (fun _ _ _ => False)
    (OwnFrom.and (Own.from (holdsRow_own w.heap.size w.heap.size 50 3 1 (fun pre : List Int => pre.length) (fun pre : List Int => pre.map (Value.int .i64)) (fun pre v => True)) _) (ownFrom_below (Nat.le_refl _) (by simp)))
    (fun _ _ _ _ _ hs _ _ => hs)
    ⟨⟨_, bO, World.ownsRow_nil _ _ _ _, trivial⟩, hB0⟩
    (fun x => { tmps := #[.slice none 0 0, .func (.func 86) #[] #[.pointer (some ⟨Bs, 0, none⟩)], .pointer (some ⟨w.heap.size, 0, none⟩), undef, .slice none 0 0, .int .i64 x, .func (.func 86) #[] #[.pointer (some ⟨Bs, 0, none⟩)], .int .i64 x, undef, undef, undef, undef, undef], defers := [] }) ?assign ?body ?done ?stop
  case assign =>
    intro l x W K hK
    gi_wp2
    exact hK
  case body =>
    rintro l pre x W ⟨⟨v, hv, hrow, _⟩, hB⟩ hlt
    have hc := hv.cell
    gi_wp2_with (gi_at_builtin; refine wpListIn_append_own _ rfl _ _ 50 rfl w.heap.size 3 i0 (.int .i64 0) 1 8 Tryz.underlying50 hi hz0 hz1 hz2 rfl (by decide) _ _ _ rfl (hrow.alloc _) ⟨W.heap.size, 0, none⟩ 1 1 [.int .i64 x] rfl rfl (cell_one_new _ _ _) (by simp [Value.oneCell']) (by simp only [maxLen]; omega) (by omega) (by have := hB.size; simp; omega) ?_; intro v' w1 hown' hgrow _; obtain ⟨g', cap', rfl⟩ := ownsRow_succ hown'; obtain ⟨hv1, hv2, hr2, hk2, hb2⟩ := hv.appended (by decide) hrow hB.size (Nat.le_refl _) hown' hgrow; have hc1 := hv1.cell; have hf1 := hv1.frozen)
    exact ⟨hk2.from _, hb2, ⟨_, hv2, by simpa using hr2, trivial⟩, hB.trans hb2⟩
  case done =>
    rintro D ys W hD rfl ⟨⟨v, hv, hrow, _⟩, hB⟩ hK
    have hc := hv.cell
    gi_wp2
    refine ⟨by simp, .inl ⟨_, _, rfl, run_takeDeferred hK, ?_⟩⟩
    exact ⟨_, results_tmp rfl _ _ _, v, rfl, ownsRow_putObj hrow _ hK rfl, hB.trans (belowK_b (w := w) (Nat.le_refl _) W D _ _ (by simp at hD; omega) hK rfl rfl)⟩
  case stop =>
    rintro D c pre W _ _ h _
    exact h.elim

set_option maxHeartbeats 1000000 in
/-- slices.Values(s): the slice value is boxed; the function value captures the box. -/
theorem Values_any (a : Option Addr) (len cap : Nat) (w : World) :
    Calls Tryz.prog 64 #[.slice a len cap] w fun e w' => e = .returned (.func (.func 86) #[] #[.pointer (some ⟨w.heap.size, 0, none⟩)]) ∧ w.alloc (.cells #[.slice a len cap] 50) = w' := by
  go_enter Tryz.func64, Tryz.ntmps64
  go_wp2
  go_ret
  exact ⟨rfl, rfl⟩

set_option maxHeartbeats 1000000 in
theorem Collect_any (Bs : Nat) (sv : Value) (zs : List Int) (hreach : zs.length * 8 ≤ 140737488351232) (w : World) (hBs : Bs < w.heap.size)
    (hc : w.cell? ⟨Bs, 0, none⟩ = some sv) (hI : IntsAt w.heap.size w sv zs) :
    Calls Tryz.prog 84 #[.func (.func 86) #[] #[.pointer (some ⟨Bs, 0, none⟩)]] w fun e W' => ∃ v, e = .returned v ∧
      W'.ownsRow w.heap.size 3 1 v zs.length (zs.map (Value.int .i64)) ∧ Below w.heap.size w W' := by
  have H := Lib.hid hI
  have HC := Lib.hid hc
  clear hI hc
  go_enter Tryz.func84, Tryz.ntmps84
  go_wp2_with fail
  refine (AppendSeq_any Bs sv zs hreach _ hBs HC.out H.out).mono ?_
  rintro e W ⟨v, rfl, h1, h2⟩
  have H1 := Lib.hid h1
  have H2 := Lib.hid h2
  clear h1 h2
  go_wp2_with fail
  go_ret
  exact ⟨v, rfl, H1.out, H2.out⟩
end Go.Proofs.YthlmgookaljgnaaGreatDoor
namespace Go.Proofs.YthlmgookaljgnaaGreatDoor
open Go.RowKit
set_option linter.unusedVariables false

/-- A slice of numbers that the call owns. -/
def RowV (w : World) (base : Nat) (v : Value) (zs : List Int) : Prop :=
  (v = .slice none 0 0 ∧ zs = []) ∨ ∃ g cap tl, v = .slice (some ⟨g, 0, none⟩) zs.length cap ∧ base ≤ g ∧ w.heap[g]? = some (.cells (intsW zs ++ tl).toArray 3 (0, 0)) ∧ tl.length = cap - zs.length ∧ zs.length ≤ cap ∧ cap ≤ 9223372036854775807
theorem RowV.of_own {w : World} {base n : Nat} {v : Value} {zs : List Int} (h : w.ownsRow base 3 1 v n (zs.map (Value.int .i64))) : RowV w base v zs := by
  have hl : zs.length = n := by have := h.1; simpa using this
  rcases h.2 with ⟨rfl, h0⟩ | ⟨g, cap, cur, rfl, hb, hg, hn, hc, hs, htk⟩
  · exact .inl ⟨rfl, List.eq_nil_of_length_eq_zero (by omega)⟩
  · refine .inr ⟨g, cap, cur.toList.drop n, by rw [hl], hb, ?_, ?_, by omega, hc⟩
    · rw [hg, intsW, ← htk, Nat.mul_one, List.take_append_drop]
    · rw [List.length_drop, Array.length_toList, hs, hl, Nat.mul_one]

theorem Sorted_any (Bs : Nat) (sv : Value) (zs : List Int) (hreach : zs.length ≤ 100000000) (w : World) (hBs : Bs < w.heap.size)
    (hc : w.cell? ⟨Bs, 0, none⟩ = some sv) (hI : IntsAt w.heap.size w sv zs) :
    Calls Tryz.prog 63 #[.func (.func 86) #[] #[.pointer (some ⟨Bs, 0, none⟩)]] w fun e W' => ∃ v, e = .returned v ∧
      RowV W' w.heap.size v (zs.mergeSort fun x y => decide (x ≤ y)) ∧ Below w.heap.size w W' := by
  have CO := Lib.hid (Collect_any Bs sv zs (by omega) w hBs hc hI)
  clear hI hc
  go_enter Tryz.func63, Tryz.ntmps63
  go_wp2_with fail
  refine CO.out.mono ?_
  rintro e W ⟨v, rfl, h1, h2⟩
  have H2 := Lib.hid h2
  clear h2
  rcases h1.2 with ⟨rfl, h0⟩ | ⟨g, cap, cur, rfl, hb, hg, hn, hc, hs, htk⟩
  · obtain rfl : zs = [] := List.eq_nil_of_length_eq_zero h0
    clear h1
    go_wp2_with fail
    refine (Any.slices_Sort_int_none Tryz.lays189 none 0 W).mono ?_
    rintro e w' ⟨rfl, rfl⟩
    go_wp2_with fail
    go_ret
    exact ⟨_, rfl, .inl ⟨rfl, by simp⟩, H2.out⟩
  · have hH : Go.Sort.Holds (Value.int .i64) W g 0 zs.toArray := Go.Proofs.holds_of_block_i hg (by simpa using htk)
    have SO := Lib.hid (Tryz.slices_Sort_int g 0 cap zs W hH (ltOf hg) (by omega))
    have H1 := Lib.hid h1
    have HG := Lib.hid hg
    have HS := Lib.hid hs
    have HC := Lib.hid hc
    clear h1 hg hH htk hs hc
    go_wp2_with fail
    refine SO.out.mono ?_
    rintro e w' ⟨rfl, nn, os, hw⟩
    have HW := Lib.hid hw
    clear hw
    go_wp2_with fail
    go_ret
    have hrow := Go.Proofs.ownsRow_sorted_i (os := os) (n := nn) (ss := zs) (ts := zs.mergeSort fun x y => decide (x ≤ y)) (by simp) hb HG.out hn HC.out HS.out
    have hgr := Go.Proofs.grownBy_sorted_i (w := W) (g := g) (n := nn) (os := os) (zs.mergeSort fun x y => decide (x ≤ y)).toArray
    rw [HW.out]
    exact ⟨_, rfl, RowV.of_own hrow, H2.out.grown hgr H2.out.size (fun k e => by injection e with e; omega)⟩

open Go.Sort Go.Maps in
theorem putRow_heap {w : World} {g n : Nat} {cur : Array Value} {e : TypeId} {fr : Nat × Nat} (d : Array Int) (hb : w.heap[g]? = some (.cells cur e fr)) :
    (putRow (Value.int .i64) (Sort.ahead w n) g 0 d).heap[g]? = some (.cells (putCells (Value.int .i64) 0 d cur) e fr) := by
  have hg : g < w.heap.size := (Array.getElem?_eq_some_iff.1 hb).1
  simp [putRow, mapBlock, Sort.ahead, Array.getElem?_modify, hb, onCells]
open Go.Sort Go.Maps in
theorem putRow_grown {w : World} {g n : Nat} (d : Array Int) : w.grownBy (putRow (Value.int .i64) (Sort.ahead w n) g 0 d) (some g) := by
  refine ⟨rfl, rfl, rfl, by simp, fun k hk hne => ?_⟩
  have : g ≠ k := fun e => hne (by rw [e])
  simp [putRow, mapBlock, Sort.ahead, Array.getElem?_modify, this]
open Go.Sort in
theorem putCells_ints (zs ys : List Int) (tl : List Value) (h : ys.length = zs.length) : putCells (Value.int .i64) 0 ys.toArray (intsW zs ++ tl).toArray = (intsW ys ++ tl).toArray := by
  apply Array.ext
  · simp [putCells, intsW, h]
  · intro i h1 h2
    by_cases hi : i < ys.length
    · have hi2 : i < zs.length := by omega
      simp only [putCells, intsW, List.size_toArray, h, Nat.zero_le, Nat.zero_add, hi2, and_self, if_true, List.getElem_toArray, Array.getElem_mapIdx, List.getElem_append, List.length_map, dif_pos, List.getElem_map, Nat.sub_zero]
      simp [hi]
    · have hi' : ¬ i < zs.length := by omega
      simp [putCells, intsW, hi', List.getElem_append, h]

theorem Compact_any {w : World} {base : Nat} {v : Value} {zs : List Int} (h : RowV w base v zs) :
    Calls Tryz.prog 62 #[v] w fun e w' => ∃ v', e = .returned v' ∧ RowV w' base v' (Lib.compact zs) ∧ Upd (fun k => v.ownBlock = some k) w w' := by
  rcases h with ⟨rfl, rfl⟩ | ⟨g, cap, tl, rfl, hb, hg, ht, hc, hc6⟩
  · refine (Tryz.slices_Compact_int_empty none 0 w).mono ?_
    rintro e w' ⟨rfl, rfl⟩
    exact ⟨_, rfl, .inl ⟨rfl, rfl⟩, Upd.refl _ _⟩
  · have hH : Go.Sort.Holds (Value.int .i64) w g 0 zs.toArray := Go.Proofs.holds_of_block_i hg (by simp [intsW])
    have hcl := Lib.compact_length_le zs
    refine (Tryz.slices_Compact_int g 0 cap zs w hH (by omega) hc).mono ?_
    rintro e w' ⟨rfl, q, rfl⟩
    refine ⟨_, rfl, .inr ⟨g, cap, (List.replicate (zs.length - (Lib.compact zs).length) (0 : Int)).map (Value.int .i64) ++ tl, rfl, hb, ?_, ?_, by omega, hc6⟩, (Upd.refl _ w).grown (putRow_grown _) fun k e => .inl (by injection e with e; subst e; rfl)⟩
    · rw [putRow_heap _ hg, putCells_ints _ _ _ (by rw [List.length_append, List.length_replicate]; omega)]
      simp [intsW, List.map_append, List.append_assoc]
    · rw [List.length_append, List.length_map, List.length_replicate, ht]; omega

section
variable {w : World} {bd bu bv : Nat} {pv : Value} {n : Nat} {d : DV}

set_option maxHeartbeats 400000 in
theorem crash1_any (h : DiskAt w bd bu bv pv n d) (B : Nat) (hB : w.cell? ⟨B, 0, none⟩ = some (.pointer (some ⟨bd, 0, none⟩))) (i : Int) :
    Calls Tryz.prog 66 #[.int .i64 i, .pointer (some ⟨B, 0, none⟩)] w fun e w' => e = .returned (.bool (outB d.pe.length i)) ∧ w = w' := by
  obtain ⟨A, c, hv⟩ : ∃ A c, pv = .slice A d.pe.length c := by
    rcases h.hp.2 with ⟨e, e0⟩ | ⟨g, cap, cur, e, _⟩
    · exact ⟨none, 0, by rw [e, e0]⟩
    · exact ⟨_, cap, e⟩
  have c4 : w.cell? ⟨bd, 4, none⟩ = some (.slice A d.pe.length c) := by rw [cellOf h.hd, ← hv]; rfl
  clear h hv
  by_cases a0 : i < 0
  · have b0 : decide (i < 0) = true := by simpa using a0
    have e : outB d.pe.length i = true := by simp [outB, a0]
    have E := Lib.hid e
    clear e
    go_enter Tryz.func66, Tryz.ntmps66
    go_wp2
    go_ret
    exact ⟨by rw [E.out]; rfl, rfl⟩
  · have b0 : decide (i < 0) = false := by simpa using a0
    have e : outB d.pe.length i = decide ((d.pe.length : Int) ≤ i) := by simp [outB, a0]
    have E := Lib.hid e
    clear e
    go_enter Tryz.func66, Tryz.ntmps66
    go_wp2
    go_ret
    exact ⟨by rw [E.out]; rfl, rfl⟩
end
end Go.Proofs.YthlmgookaljgnaaGreatDoor
