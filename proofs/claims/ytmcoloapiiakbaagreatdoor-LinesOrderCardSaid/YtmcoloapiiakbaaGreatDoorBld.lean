/-
  A strings.Builder of the call's own, over lists of bytes.
-/
import Derived.Test.YtmcoloapiiakbaaGreatDoorEnv
set_option linter.unusedVariables false
set_option linter.unusedSimpArgs false
namespace Go.Proofs.YtmcoloapiiakbaaGreatDoor.Bld
open Go.RowKit Go.Lib Go.Proofs.YtmcoloapiiakbaaGreatDoor.B Go.Proofs.YtmcoloapiiakbaaGreatDoor.Rd Go.Proofs.YtmcoloapiiakbaaGreatDoor.Env

/-- A builder at block b holds bytes; its memory lies from block B on. -/
def Bld (B b : Nat) (out : List UInt8) (w : World) : Prop := Lib.IsBuilderF 65 5 B b (Lib.byteCells out) w
theorem BldAt.moved {T e : TypeId} {B b : Nat} {p : Value} {bs : List Value} {w w' : World} (h : Lib.BuilderAtF T e B b p bs w) (hm : ∀ k, B ≤ k → k < w.heap.size → w'.heap[k]? = w.heap[k]?) : Lib.BuilderAtF T e B b p bs w' := by
  obtain ⟨hB, v, hb, hown, hne⟩ := h
  have lt : ∀ {k : Nat} {o : Obj}, w.heap[k]? = some o → k < w.heap.size := fun h => (Array.getElem?_eq_some_iff.1 h).1
  refine ⟨hB, v, (hm b hB (lt hb)).trans hb, ⟨hown.1, ?_⟩, hne⟩
  rcases hown.2 with hn | ⟨g, cap, cur, fz, hv, hbg, hg, rest⟩
  · exact .inl hn
  · exact .inr ⟨g, cap, cur, fz, hv, hbg, (hm g hbg (lt hg)).trans hg, rest⟩
theorem Bld.moved {B b : Nat} {out : List UInt8} {w w' : World} (h : Bld B b out w) (hm : ∀ k, B ≤ k → k < w.heap.size → w'.heap[k]? = w.heap[k]?) : Bld B b out w' :=
  h.elim (fun x => .inl (BldAt.moved x hm)) (fun x => .inr (BldAt.moved x hm))
theorem Bld.below {B b : Nat} {out : List UInt8} {w w' : World} (h : Bld B b out w) (hb : Below w.heap.size w w') : Bld B b out w' := h.moved fun k _ hk => hb.block k hk
theorem Bld.grown {B b rb : Nat} {out : List UInt8} {w w' : World} (h : Bld B b out w) (hg : w.grownBy w' (some rb)) (hr : rb < B) : Bld B b out w' := h.moved fun k h1 hk => hg.block k hk (by simp; omega)
theorem Bld.lt {B b : Nat} {out : List UInt8} {w : World} (h : Bld B b out w) : B ≤ b ∧ b < w.heap.size := by
  rcases h with ⟨hB, v, hb, _⟩ | ⟨hB, v, hb, _⟩
  · exact ⟨hB, (Array.getElem?_eq_some_iff.1 hb).1⟩
  · exact ⟨hB, (Array.getElem?_eq_some_iff.1 hb).1⟩
theorem Bld.new (w : World) : Bld w.heap.size w.heap.size [] (w.alloc (.cells #[.pointer none, .slice none 0 0] 65)) :=
  .inl ⟨Nat.le_refl _, .slice none 0 0, Kd.heap_new _ _, World.ownsRowF_nil _ _ _ _, by simp [Value.ownBlock]⟩
theorem runeCells_eq (r : Int) : Lib.runeCells r = Lib.byteCells (encodeRune r) := by
  unfold Lib.runeCells Lib.byteCells encodeRune
  rw [List.map_map]
  apply List.map_congr_left
  intro x hx
  have := encodeRuneZ_byte r x hx
  show Value.int .u8 x = .int .u8 ((x.toNat.toUInt8).toNat : Int)
  congr 1
  rw [UInt8.toNat_ofNat']
  omega
theorem byteCells_append (a b : List UInt8) : Lib.byteCells a ++ Lib.byteCells b = Lib.byteCells (a ++ b) := by simp [Lib.byteCells]
theorem byteCells_len (a : List UInt8) : (Lib.byteCells a).length = a.length := by simp [Lib.byteCells]
theorem writeRune_calls (B b : Nat) (out : List UInt8) (r : Nat) (hr : r ≤ 2147483647) (w : World) (h : Bld B b out w) (hl : out.length + 4 ≤ 140737488355328) (hB : B ≤ w.heap.size) :
    Calls Tryz.prog 111 #[.pointer (some ⟨b, 0, none⟩), .int .i32 (r : Int)] w fun e w' => (∃ v, e = .returned v) ∧ Bld B b (out ++ encodeRune (r : Int)) w' ∧ Below B w w' := by
  refine (Any.Builder_WriteRune_k SB.lays168 Tryz.Builder_Extra_159 B b (Lib.byteCells out) (r : Int) (by omega) (by omega) w h (by rw [byteCells_len]; exact hl) hB).mono ?_
  rintro e w' ⟨h1, h2, h3, _⟩
  refine ⟨⟨_, h1⟩, .inr ?_, h3⟩
  rw [runeCells_eq, byteCells_append] at h2
  exact h2
theorem writeByte_calls (B b : Nat) (out : List UInt8) (c : UInt8) (w : World) (h : Bld B b out w) (hl : out.length + 1 ≤ 140737488355328) (hB : B ≤ w.heap.size) :
    Calls Tryz.prog 103 #[.pointer (some ⟨b, 0, none⟩), .int .u8 (c.toNat : Int)] w fun e w' => (∃ v, e = .returned v) ∧ Bld B b (out ++ [c]) w' ∧ Below B w w' := by
  refine (Any.Builder_WriteByte_k SB.lays167 Tryz.Builder_Extra_159 B b (Lib.byteCells out) (c.toNat : Int) w h (by rw [byteCells_len]; exact hl) hB).mono ?_
  rintro e w' ⟨h1, h2, h3, _⟩
  refine ⟨⟨_, h1⟩, .inr ?_, h3⟩
  rw [show [Value.int .u8 (c.toNat : Int)] = Lib.byteCells [c] from rfl, byteCells_append] at h2
  exact h2
theorem strCells_eq (l : List UInt8) : Lib.strCells (mkS l) = Lib.byteCells l := by
  unfold Lib.strCells Lib.byteCells
  rfl
theorem writeString_calls (B b : Nat) (out l : List UInt8) (w : World) (h : Bld B b out w) (hl : out.length + l.length ≤ 140737488355328) (hB : B ≤ w.heap.size) :
    Calls Tryz.prog 44 #[.pointer (some ⟨b, 0, none⟩), .string (mkS l)] w fun e w' => (∃ v, e = .returned v) ∧ Bld B b (out ++ l) w' ∧ Below B w w' := by
  refine (Any.Builder_WriteString_k SB.lays166 Tryz.Builder_Extra_159 B b (Lib.byteCells out) (mkS l) w h (by rw [byteCells_len, mkS_size]; exact hl) hB).mono ?_
  rintro e w' ⟨h1, h2, h3, _⟩
  refine ⟨⟨_, h1⟩, .inr ?_, h3⟩
  rw [strCells_eq, byteCells_append] at h2
  exact h2
theorem string_calls (B b : Nat) (out : List UInt8) (w : World) (h : Bld B b out w) (hB : B ≤ w.heap.size) :
    Calls Tryz.prog 46 #[.pointer (some ⟨b, 0, none⟩)] w fun e w' => e = .returned (.string (mkS out)) ∧ Bld B b out w' ∧ Below B w w' :=
  (Any.Builder_String_any_k SB.lays169 Tryz.Builder_Extra_159 B b out w h hB).mono fun e w' ⟨h1, h2, h3, _⟩ => ⟨h1, h2, h3⟩
end Go.Proofs.YtmcoloapiiakbaaGreatDoor.Bld
