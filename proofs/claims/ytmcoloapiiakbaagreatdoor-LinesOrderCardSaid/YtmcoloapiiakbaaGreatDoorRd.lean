/-
  Words for readers: a struct of a string and a bool behind a pointer; strings as lists of bytes.
-/
import Derived.Test.YtmcoloapiiakbaaGreatDoorBase
import Derived.Test.YtmcoloapiiakbaaGreatDoorProg
import Derived.WalkKit
import Derived.Lib.Hide
import Derived.WalkSpells
import Derived.Lib.Strings
import Derived.WalkLawsBesides
import Derived.Deep.LoopGhost
import Derived.Deep.QuietTactic
import Derived.BigQuiet
import Derived.Deep.DeepCutAuto
set_option linter.unusedVariables false
set_option linter.unusedSimpArgs false
namespace Go.Proofs.YtmcoloapiiakbaaGreatDoor.Rd
open Go.RowKit Go.Proofs.YtmcoloapiiakbaaGreatDoor.B

theorem mkS_get (l : List UInt8) (k : Nat) (h : k < (mkS l).size) (h' : k < l.length) : (mkS l)[k] = l[k] := rfl
theorem mkS_toList (l : List UInt8) : (mkS l).toList = l := ByteArray.toList_mk l
theorem mkS_extract (l : List UInt8) (a b : Nat) : (mkS l).extract a b = mkS ((l.drop a).take (b - a)) := by
  apply ByteArray.ext
  apply Array.toList_inj.1
  exact Lib.extract_data (mkS l) a b
theorem mkS_append (a b : List UInt8) : mkS a ++ mkS b = mkS (a ++ b) := by
  apply ByteArray.ext
  rw [ByteArray.data_append]
  simp [mkS]
theorem mkS_lit (a : Array UInt8) : (⟨a⟩ : ByteArray) = mkS a.toList := by simp [mkS]
theorem mkS_inj {a b : List UInt8} (h : mkS a = mkS b) : a = b := by
  have := congrArg (fun x : ByteArray => x.data.toList) h
  exact this
theorem eq_mkS (s : ByteArray) : s = mkS s.data.toList := by cases s; simp [mkS]

theorem ret_i {k : IntKind} {a b : Int} (h : a = b) : Value.int k a = .int k b := by rw [h]
theorem ret_str {a b : ByteArray} (h : a = b) : Ending.returned (.string a) = .returned (.string b) := by rw [h]

/-- A reader lies at block rb: what is left, and whether it errs. -/
structure At (w : World) (rb : Nat) (s : List UInt8) (bad : Bool) : Prop where
  c0 : w.cell? ⟨rb, 0, none⟩ = some (.string (mkS s))
  c1 : w.cell? ⟨rb, 1, none⟩ = some (.bool bad)
  f0 : w.frozen? ⟨rb, 0, none⟩ = false
  f1 : w.frozen? ⟨rb, 1, none⟩ = false
  len : s.length ≤ 70368744177664

theorem At.lt {w : World} {rb : Nat} {s : List UInt8} {bad : Bool} (h : At w rb s bad) : rb < w.heap.size := World.block_lt_of_cell? w ⟨rb, 0, none⟩ h.c0
/-- A step of a reader: it alone of what was there is written. -/
structure Step (w w' : World) (rb : Nat) (s : List UInt8) (bad : Bool) : Prop where
  grown : w.grownBy w' (some rb)
  at' : At w' rb s bad
theorem Step.refl {w : World} {rb : Nat} {s : List UInt8} {bad : Bool} (h : At w rb s bad) : Step w w rb s bad := ⟨World.grownBy.refl _ _, h⟩
theorem Step.trans {a b c : World} {rb : Nat} {s t : List UInt8} {x y : Bool} (h : Step a b rb s x) (k : Step b c rb t y) : Step a c rb t y := ⟨h.grown.trans k.grown, k.at'⟩
theorem grown_setCell (w : World) (a : Addr) (u : Value) : w.grownBy (w.setCell a u) (some a.block) :=
  ⟨rfl, rfl, rfl, by simp, fun k hk hne => by
    have : k ≠ a.block := fun e => hne (by rw [e])
    simp [World.setCell, Array.getElem?_modify]
    intro e
    exact absurd e.symm this⟩
theorem At.set0 {w : World} {rb : Nat} {s t : List UInt8} {bad : Bool} (h : At w rb s bad) (ht : t.length ≤ 70368744177664) : At (w.setCell ⟨rb, 0, none⟩ (.string (mkS t))) rb t bad :=
  ⟨World.cell?_setCell_same _ _ _ h.c0, by rw [World.cell?_setCell_other _ _ _ _ (by simp)]; exact h.c1, by rw [World.frozen?_setCell]; exact h.f0, by rw [World.frozen?_setCell]; exact h.f1, ht⟩
theorem At.set1 {w : World} {rb : Nat} {s : List UInt8} {bad : Bool} (h : At w rb s bad) (b : Bool) : At (w.setCell ⟨rb, 1, none⟩ (.bool b)) rb s b :=
  ⟨by rw [World.cell?_setCell_other _ _ _ _ (by simp)]; exact h.c0, World.cell?_setCell_same _ _ _ h.c1, by rw [World.frozen?_setCell]; exact h.f0, by rw [World.frozen?_setCell]; exact h.f1, h.len⟩
theorem At.kept {w w1 : World} {rb : Nat} {s : List UInt8} {bad : Bool} (h : At w rb s bad) (hb : Below w.heap.size w w1) : At w1 rb s bad :=
  ⟨hb.cell (p := ⟨rb, 0, none⟩) h.lt |>.trans h.c0, hb.cell (p := ⟨rb, 1, none⟩) h.lt |>.trans h.c1, hb.frozen (p := ⟨rb, 0, none⟩) h.lt |>.trans h.f0, hb.frozen (p := ⟨rb, 1, none⟩) h.lt |>.trans h.f1, h.len⟩
theorem Step.set0 {w0 w : World} {rb : Nat} {s t : List UInt8} {bad : Bool} (h : Step w0 w rb s bad) (ht : t.length ≤ 70368744177664) : Step w0 (w.setCell ⟨rb, 0, none⟩ (.string (mkS t))) rb t bad :=
  ⟨h.grown.trans (grown_setCell _ _ _), h.at'.set0 ht⟩
theorem Step.set1 {w0 w : World} {rb : Nat} {s : List UInt8} {bad : Bool} (h : Step w0 w rb s bad) (b : Bool) : Step w0 (w.setCell ⟨rb, 1, none⟩ (.bool b)) rb s b :=
  ⟨h.grown.trans (grown_setCell _ _ _), h.at'.set1 b⟩
theorem Step.below {w0 w w1 : World} {rb : Nat} {s : List UInt8} {bad : Bool} (h : Step w0 w rb s bad) (hb : Below w.heap.size w w1) : Step w0 w1 rb s bad :=
  ⟨h.grown.trans ⟨hb.os, hb.tape, hb.output, hb.size, fun k hk _ => hb.block k hk⟩, h.at'.kept hb⟩
/-- Seen from below the reader. -/
theorem Step.seen {w0 w w' : World} {rb : Nat} {s : List UInt8} {bad : Bool} (h : Step w w' rb s bad) (hb : Below w0.heap.size w0 w) (hr : w0.heap.size ≤ rb) : Below w0.heap.size w0 w' :=
  ⟨h.grown.os.trans hb.os, h.grown.tape.trans hb.tape, h.grown.output.trans hb.output, Nat.le_trans hb.size h.grown.size, fun k hk => (h.grown.block k (Nat.lt_of_lt_of_le hk hb.size) (by simp; omega)).trans (hb.block k hk)⟩
theorem bcell {W w1 : World} (hb : Below W.heap.size W w1) : (∀ b o, b < W.heap.size → w1.cell? ⟨b, o, none⟩ = W.cell? ⟨b, o, none⟩) ∧ (∀ b o, b < W.heap.size → w1.frozen? ⟨b, o, none⟩ = W.frozen? ⟨b, o, none⟩) :=
  ⟨fun b o h => hb.cell (p := ⟨b, o, none⟩) h, fun b o h => hb.frozen (p := ⟨b, o, none⟩) h⟩
theorem gcell {W w1 : World} {rb : Nat} (hg : W.grownBy w1 (some rb)) : (∀ b o, b < W.heap.size → ¬ b = rb → w1.cell? ⟨b, o, none⟩ = W.cell? ⟨b, o, none⟩) ∧ (∀ b o, b < W.heap.size → ¬ b = rb → w1.frozen? ⟨b, o, none⟩ = W.frozen? ⟨b, o, none⟩) :=
  ⟨fun b o h hne => World.cell?_of_block (a := ⟨b, o, none⟩) (hg.block b h (by simp; exact hne)), fun b o h hne => World.frozen?_of_block (a := ⟨b, o, none⟩) (hg.block b h (by simp; exact hne))⟩
theorem Step.from {w0 w w' : World} {rb : Nat} {s : List UInt8} {bad : Bool} (hb : Below w0.heap.size w0 w) (h : Step w w' rb s bad) : Step w0 w' rb s bad :=
  ⟨⟨h.grown.os.trans hb.os, h.grown.tape.trans hb.tape, h.grown.output.trans hb.output, Nat.le_trans hb.size h.grown.size, fun k hk hne => (h.grown.block k (Nat.lt_of_lt_of_le hk hb.size) hne).trans (hb.block k hk)⟩, h.at'⟩
theorem Step.other {w0 w : World} {rb g j : Nat} {s : List UInt8} {bad : Bool} (h : Step w0 w rb s bad) (hg : w0.heap.size ≤ g) (hne : g ≠ rb) (u : Value) : Step w0 (w.setCell ⟨g, j, none⟩ u) rb s bad :=
  ⟨⟨h.grown.os, h.grown.tape, h.grown.output, by rw [World.size_setCell]; exact h.grown.size, fun k hk hn => by
      have hkg : k ≠ g := by omega
      rw [← h.grown.block k hk hn]
      simp [World.setCell, Array.getElem?_modify]
      intro e
      exact absurd e.symm hkg⟩,
    ⟨by rw [World.cell?_setCell_other _ _ _ _ (by simp; try (intro e; exact absurd e hne))]; exact h.at'.c0, by rw [World.cell?_setCell_other _ _ _ _ (by simp; try (intro e; exact absurd e hne))]; exact h.at'.c1,
      by rw [World.frozen?_setCell]; exact h.at'.f0, by rw [World.frozen?_setCell]; exact h.at'.f1, h.at'.len⟩⟩
theorem Step.alloc {w0 w : World} {rb : Nat} {s : List UInt8} {bad : Bool} (h : Step w0 w rb s bad) (o : Obj) : Step w0 (w.alloc o) rb s bad :=
  h.below ((Below.refl _ _).alloc (Nat.le_refl _) o)
theorem mkS_nil : mkS [] = ⟨#[]⟩ := rfl
theorem drop1 (r : List UInt8) : (mkS r).extract 1 r.length = mkS (r.drop 1) := by rw [mkS_extract, List.take_of_length_le (by simp)]
theorem drop2 (r : List UInt8) : (mkS r).extract 2 r.length = mkS (r.drop 2) := by rw [mkS_extract, List.take_of_length_le (by simp)]
theorem drop3 (r : List UInt8) : (mkS r).extract 3 r.length = mkS (r.drop 3) := by rw [mkS_extract, List.take_of_length_le (by simp)]
theorem prefix_len (p r : List UInt8) (h : p.isPrefixOf r = true) : p.length ≤ r.length := by
  rw [List.isPrefixOf_iff_prefix] at h
  exact h.length_le
theorem Step.drew {w0 w : World} {rb : Nat} {s : List UInt8} {bad : Bool} (h : Step w0 w rb s bad) : Step w0 w.drew rb s bad :=
  ⟨⟨h.grown.os, h.grown.tape, h.grown.output, h.grown.size, h.grown.block⟩, ⟨h.at'.c0, h.at'.c1, h.at'.f0, h.at'.f1, h.at'.len⟩⟩
theorem drops (l : List UInt8) (k : Nat) : (mkS l).extract k l.length = mkS (l.drop k) := by rw [mkS_extract, List.take_of_length_le (by simp)]
theorem Step.belowB {w0 w w1 : World} {rb : Nat} {s : List UInt8} {bad : Bool} (h : Step w0 w rb s bad) (hb : Below w0.heap.size w w1) (hr : rb < w0.heap.size) : Step w0 w1 rb s bad :=
  ⟨⟨hb.os.trans h.grown.os, hb.tape.trans h.grown.tape, hb.output.trans h.grown.output, Nat.le_trans h.grown.size hb.size, fun k hk hne => (hb.block k hk).trans (h.grown.block k hk hne)⟩,
    ⟨hb.cell (p := ⟨rb, 0, none⟩) hr |>.trans h.at'.c0, hb.cell (p := ⟨rb, 1, none⟩) hr |>.trans h.at'.c1, hb.frozen (p := ⟨rb, 0, none⟩) hr |>.trans h.at'.f0, hb.frozen (p := ⟨rb, 1, none⟩) hr |>.trans h.at'.f1, h.at'.len⟩⟩
end Go.Proofs.YtmcoloapiiakbaaGreatDoor.Rd
