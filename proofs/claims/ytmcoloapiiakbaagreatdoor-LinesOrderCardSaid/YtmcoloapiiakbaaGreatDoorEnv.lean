/-
  What lies in memory at the call's begin and stays; the library's contracts over lists of bytes.
-/
import Derived.Test.YtmcoloapiiakbaaGreatDoorTx
import Derived.Test.YtmcoloapiiakbaaGreatDoorShelf
import Derived.Test.YtmcoloapiiakbaaGreatDoorSB
import Derived.Lib.LaidU8
set_option linter.unusedVariables false
set_option linter.unusedSimpArgs false
namespace Go.Proofs.YtmcoloapiiakbaaGreatDoor.Env
open Go.RowKit Go.Lib Go.Proofs.YtmcoloapiiakbaaGreatDoor.B Go.Proofs.YtmcoloapiiakbaaGreatDoor.Rd Go.Proofs.YtmcoloapiiakbaaGreatDoor.Utf Go.Proofs.YtmcoloapiiakbaaGreatDoor.TermPure Go.Proofs.YtmcoloapiiakbaaGreatDoor.Tx

/-- The tables of unicode/utf8, and a number of the library's. -/
structure Env (w : World) : Prop where
  tabs : Lib.Utf8Tabs 0 1 w
  len : ∃ m, w.cell? ⟨2, 0, none⟩ = some (.int .i64 m)
theorem Env.below {w w' : World} (h : Env w) (hb : Below w.heap.size w w') : Env w' :=
  ⟨Utf8Tabs_below h.tabs hb, by
    obtain ⟨m, hm⟩ := h.len
    exact ⟨m, (hb.cell (p := ⟨2, 0, none⟩) (World.block_lt_of_cell? w _ hm)).trans hm⟩⟩
/-- All that the environment is lies below this block. -/
def lowB : Nat := (max (max 0 1) 2) + 1
theorem Env.low {w : World} (h : Env w) : lowB ≤ w.heap.size := by
  have h1 := World.block_lt_of_cell? w _ (h.tabs.1 0 (by decide))
  have h2 := World.block_lt_of_cell? w _ (h.tabs.2 0 (by decide)).1
  obtain ⟨m, hm⟩ := h.len
  have h3 := World.block_lt_of_cell? w _ hm
  dsimp only at h1 h2 h3
  unfold lowB
  omega
theorem Env.kept {w w' : World} (h : Env w) (hb : ∀ k, k < lowB → k < w.heap.size → w'.heap[k]? = w.heap[k]?) : Env w' := by
  have cl : ∀ {g o : Nat} {v : Value}, g < lowB → w.cell? ⟨g, o, none⟩ = some v → w'.cell? ⟨g, o, none⟩ = some v := fun {g o v} hg hc =>
    (World.cell?_of_block (a := ⟨g, o, none⟩) (hb g hg (World.block_lt_of_cell? w _ hc))).trans hc
  obtain ⟨m, hm⟩ := h.len
  exact ⟨⟨fun c hc => cl (by decide) (h.tabs.1 c hc), fun i hi => ⟨cl (by decide) (h.tabs.2 i hi).1, cl (by decide) (h.tabs.2 i hi).2⟩⟩, m, cl (by decide) hm⟩
theorem Env.grown {w w' : World} {rb : Nat} (h : Env w) (hg : w.grownBy w' (some rb)) (hr : lowB ≤ rb) : Env w' :=
  h.kept fun k h8 hk => hg.block k hk (by simp; omega)
theorem Env.step {w w' : World} {rb : Nat} {s : List UInt8} {bad : Bool} (h : Env w) (hs : Step w w' rb s bad) (hr : lowB ≤ rb) : Env w' := h.grown hs.grown hr

theorem Env.set {w : World} (h : Env w) {g j : Nat} (hg : lowB ≤ g) (u : Value) : Env (w.setCell ⟨g, j, none⟩ u) := h.grown (Rd.grown_setCell w ⟨g, j, none⟩ u) hg

theorem Env.belowB {w w' : World} {B : Nat} (h : Env w) (hb : Below B w w') (hl : lowB ≤ B) : Env w' := h.kept fun k hk _ => hb.block k (Nat.lt_of_lt_of_le hk hl)

/-! ### the library -/
theorem valid_calls (l : List UInt8) (hl : l.length ≤ 9223372036854775807) (w : World) (he : Env w) :
    Calls Tryz.prog 26 #[.string (mkS l)] w fun e w' => e = .returned (.bool (validD l)) ∧ Below w.heap.size w w' :=
  Any.utf8_ValidString Tryz.lays196 (mkS l) w (by rw [mkS_size]; exact hl) he.tabs
theorem decode_calls (l : List UInt8) (hl : l ≠ []) (w : World) (he : Env w) :
    Calls Tryz.prog 80 #[.string (mkS l)] w fun e w' => e = .returned (.tuple #[.int .i32 ((decodeL l).1 : Nat), .int .i64 ((decodeL l).2 : Nat)]) ∧ Below w.heap.size w w' := by
  refine (Tryz.utf8_DecodeRuneInString (mkS l) w he.tabs).mono ?_
  rintro e w' ⟨h1, h2⟩
  refine ⟨?_, h2⟩
  have hd : Lib.decodeGo (mkS l) = decodeL l := by
    unfold Lib.decodeGo
    rw [if_neg (by rw [mkS_size]; intro e; exact hl (List.eq_nil_of_length_eq_zero e))]
    exact (decodeL_drop (mkS l) 0).symm
  rw [h1, hd]
theorem cutPrefix_calls (s p : List UInt8) (w : World) :
    Calls Tryz.prog 82 #[.string (mkS s), .string (mkS p)] w fun e w' => e = .returned (.tuple #[.string (mkS (if p.isPrefixOf s then s.drop p.length else s)), .bool (p.isPrefixOf s)]) ∧ w = w' :=
  (Tryz.strings_CutPrefix (mkS s) (mkS p) w).mono fun e w' ⟨h1, h2⟩ => ⟨h1, h2.symm⟩
theorem asciiSet_info : (Tryz.prog.info? 96).map (fun i => (i.zero, i.size)) = some (some (.agg (Array.replicate 256 (.bool false))), 256) := by kernel_rfl
theorem trimLeft_calls (s c : List UInt8) (hc : c.length < 4294967281) (ha : ∀ b ∈ c, b.toNat < 128) (w : World) :
    Calls Tryz.prog 52 #[.string (mkS s), .string (mkS c)] w fun e w' => e = .returned (.string (mkS (s.dropWhile (c.contains ·)))) ∧ Below w.heap.size w w' :=
  Any.strings_TrimLeft_laid Tryz.lays161b asciiSet_info (mkS s) (mkS c) w (by rw [mkS_size]; exact hc) (fun j b hb => ha b (List.mem_of_getElem? hb))
theorem containsRune_calls (s : List UInt8) (n : Nat) (hn : n < 128) (w : World) :
    Calls Tryz.prog 107 #[.string (mkS s), .int .i32 (n : Int)] w fun e w' => e = .returned (.bool (s.contains (UInt8.ofNat n))) ∧ w = w' := by
  refine (Tryz.strings_ContainsRune_ascii (mkS s) n w (by omega) (by omega)).mono fun e w' ⟨h1, h2⟩ => ⟨?_, h2.symm⟩
  rw [h1]
  have key : ∀ (l : List UInt8) (c : UInt8), decide (0 ≤ indexByte l c) = l.contains c := by
    intro l c
    induction l with
    | nil => rfl
    | cons b l ih =>
      rw [List.contains_cons]
      unfold indexByte
      have hge := indexByte_ge l c
      by_cases hbc : b = c
      · subst hbc; simp
      · have hbc' : (c == b) = false := by rw [beq_eq_false_iff_ne]; exact fun e => hbc e.symm
        have hbc2 : (b == c) = false := by rw [beq_eq_false_iff_ne]; exact hbc
        rw [hbc', hbc2, Bool.false_or, ← ih]
        simp
        by_cases h1 : indexByte l c = -1
        · rw [h1]; decide
        · rw [if_neg h1]
          constructor
          · intro h; omega
          · intro h; omega
  rw [key]
  rfl
theorem idxFrom_any (p : Nat → Bool) (l : List UInt8) : ∀ (f i : Nat), l.length ≤ i + f → decide (0 ≤ idxFuncFrom p true (mkS l) f i) = (runesGo f (l.drop i)).any p
  | 0, i, h => by
    rw [show l.drop i = [] from List.drop_eq_nil_of_le (by omega)]
    rfl
  | f + 1, i, h => by
    unfold idxFuncFrom
    rw [mkS_size]
    by_cases hi : i < l.length
    · have hne : l.drop i ≠ [] := by
        intro h0
        have := congrArg List.length h0
        rw [List.length_drop] at this
        simp at this
        omega
      have hd : decodeL (l.drop i) = Utf8.decode (mkS l) i := decodeL_drop (mkS l) i
      have hw := decodeL_width (l.drop i)
      rw [if_pos hi, runesGo, if_neg hne, ← hd]
      generalize decodeL (l.drop i) = D at *
      obtain ⟨c, k⟩ := D
      dsimp only at *
      rw [List.any_cons, List.drop_drop, ← idxFrom_any p l f (i + k) (by omega)]
      cases p c with
      | true => simp
      | false => simp
    · rw [if_neg hi, show l.drop i = [] from List.drop_eq_nil_of_le (by omega), runesGo_nil]
      rfl
theorem contains_any (p : Nat → Bool) (l : List UInt8) : decide (0 ≤ Lib.idxFunc p true (mkS l)) = (runes l).any p := by
  unfold Lib.idxFunc
  rw [mkS_size, idxFrom_any p l _ 0 (by omega)]
  rfl
theorem trim_from (p : Nat → Bool) (hp : ∀ c, 128 ≤ c → p c = false) (l : List UInt8) : ∀ (f i : Nat), l.length ≤ i + f →
    (if idxFuncFrom p false (mkS l) f i = -1 then [] else l.drop (idxFuncFrom p false (mkS l) f i).toNat) = (l.drop i).dropWhile (fun b => p b.toNat)
  | 0, i, h => by
    rw [show l.drop i = [] from List.drop_eq_nil_of_le (by omega)]
    rfl
  | f + 1, i, h => by
    unfold idxFuncFrom
    rw [mkS_size]
    by_cases hi : i < l.length
    · have hd : decodeL (l.drop i) = Utf8.decode (mkS l) i := decodeL_drop (mkS l) i
      rw [if_pos hi, ← hd]
      have hc : l.drop i = l[i] :: l.drop (i + 1) := List.drop_eq_getElem_cons hi
      by_cases ha : l[i].toNat < 128
      · rw [hc, decodeL_ascii _ _ ha, List.dropWhile_cons]
        dsimp only
        cases hpc : p l[i].toNat with
        | false =>
          simp
        | true =>
          have := trim_from p hp l f (i + 1) (by omega)
          simp
          exact this
      · have h128 : 128 ≤ (decodeL (l.drop i)).1 := by
          rw [hd]
          exact (decode_high (mkS l) i (by rw [mkS_size]; exact hi) (by show 128 ≤ l[i].toNat; omega)).1
        rw [hp _ h128]
        rw [hc, List.dropWhile_cons, hp l[i].toNat (by omega)]
        simp
    · rw [if_neg hi, show l.drop i = [] from List.drop_eq_nil_of_le (by omega)]
      rfl
theorem trimF_eq (p : Nat → Bool) (hp : ∀ c, 128 ≤ c → p c = false) (l : List UInt8) : Lib.trimLeftF p (mkS l) = mkS (l.dropWhile (fun b => p b.toNat)) := by
  have h := trim_from p hp l l.length 0 (by omega)
  unfold Lib.trimLeftF Lib.idxFunc
  rw [mkS_size]
  rw [List.drop_zero] at h
  rw [← h]
  split
  · rfl
  · rw [mkS_extract, List.take_of_length_le (by simp)]
/-- '[]rune(s)'. -/
theorem runes_conv (s : List UInt8) (hs : s.length ≤ 70368744177664) (w : World) : ∃ (cap : Nat) (C : Array Value), (runes s).length ≤ cap ∧ cap ≤ maxLen ∧
    Sem.run Tryz.prog (convert 9 76 (.string (mkS s))) w = .ok (.slice (some ⟨w.heap.size, 0, none⟩) (runes s).length cap) (w.drew.alloc (.cells C 21)) ∧
    ∀ k (h : k < (runes s).length), C[k]? = some (.int .i32 ((runes s)[k] : Int)) := by
  have hsz : (Conv.runesFrom (mkS s) (mkS s).size 0 #[]).size = (runes s).length := by rw [runesFrom_all]; simp
  have hl := runes_len s
  have h := run_runes_of_string (P := Tryz.prog) w 9 76 21 (mkS s) Tryz.underlying9 Tryz.underlying76 Tryz.underlying21 (by rw [hsz]; omega)
  rw [hsz, runesFrom_all] at h
  refine ⟨grownCap w (runes s).length 0 21, _, grownCap_ge _ _ _ _, ?_, h, ?_⟩
  · exact grownCap_le_maxLen _ _ _ _ (by unfold maxLen; omega)
  · intro k hk
    rw [Array.getElem?_append_left (by simp; exact hk)]
    simp
    exact ⟨_, List.getElem?_eq_getElem hk, rfl⟩
/-- '[]byte(s)'. -/
theorem bytes_conv (s : List UInt8) (hs : s.length ≤ 70368744177664) (w : World) : ∃ (cap : Nat) (o : Obj), s.length ≤ cap ∧ cap ≤ maxLen ∧
    Sem.run Tryz.prog (convert 9 63 (.string (mkS s))) w = .ok (.slice (some ⟨w.heap.size, 0, none⟩) s.length cap) (w.drew.alloc o) ∧
    ∀ W : World, W.heap.size = w.heap.size → ∀ k (h : k < s.length), (W.alloc o).cell? ⟨w.heap.size, k, none⟩ = some (.int .u8 (s[k].toNat : Int)) ∧ (W.alloc o).frozen? ⟨w.heap.size, k, none⟩ = false := by
  have h := run_bytes_of_string (P := Tryz.prog) w 9 63 5 (mkS s) Tryz.underlying9 Tryz.underlying63 Tryz.underlying5
  rw [mkS_size] at h
  refine ⟨grownCap w s.length 0 5, _, grownCap_ge _ _ _ _, grownCap_le_maxLen _ _ _ _ (by unfold maxLen; omega), h, ?_⟩
  intro W hW k hk
  have hb := bytesRow_at (mkS s) (grownCap w s.length 0 5) k (by show k < s.toArray.size; simpa using hk)
  have hsz : k < (bytesRow (mkS s) (grownCap w s.length 0 5)).size := (Array.getElem?_eq_some_iff.1 hb).1
  constructor
  · unfold World.cell?
    dsimp only
    rw [← hW, Kd.heap_new]
    exact hb
  · unfold World.frozen?
    dsimp only
    rw [← hW, Kd.heap_new]
    simp
    omega
end Go.Proofs.YtmcoloapiiakbaaGreatDoor.Env
