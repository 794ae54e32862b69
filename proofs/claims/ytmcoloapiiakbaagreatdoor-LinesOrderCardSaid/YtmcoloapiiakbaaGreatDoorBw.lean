/-
  A strings.Builder whose memory lies from a block on behind its own: what lies between is kept too.
-/
import Derived.Test.YtmcoloapiiakbaaGreatDoorBld
set_option linter.unusedVariables false
set_option linter.unusedSimpArgs false
namespace Go.Proofs.YtmcoloapiiakbaaGreatDoor.Bw
open Go.RowKit Go.Lib Go.Proofs.YtmcoloapiiakbaaGreatDoor.B Go.Proofs.YtmcoloapiiakbaaGreatDoor.Rd Go.Proofs.YtmcoloapiiakbaaGreatDoor.Env Go.Proofs.YtmcoloapiiakbaaGreatDoor.Bld

/-- A builder at block b holds bytes; its row lies from block B on. -/
def Bw (B b : Nat) (out : List UInt8) (w : World) : Prop :=
  b < B ∧ ∃ p v, (p = .pointer none ∨ p = .pointer (some ⟨b, 0, none⟩)) ∧ w.heap[b]? = some (.cells #[p, v] 65 (0, 0)) ∧ w.ownsRowF B 5 1 v out.length (Lib.byteCells out)
/-- What lies below B but for block b is as it was. -/
structure Keeps (B b : Nat) (w w' : World) : Prop where
  os : w'.os = w.os
  tape : w'.tape = w.tape
  output : w'.output = w.output
  size : w.heap.size ≤ w'.heap.size
  block : ∀ k, k < B → k ≠ b → w'.heap[k]? = w.heap[k]?
theorem Keeps.trans {B b : Nat} {x y z : World} (h : Keeps B b x y) (k : Keeps B b y z) : Keeps B b x z :=
  ⟨k.os.trans h.os, k.tape.trans h.tape, k.output.trans h.output, Nat.le_trans h.size k.size, fun i hi hne => (k.block i hi hne).trans (h.block i hi hne)⟩
theorem Keeps.refl (B b : Nat) (w : World) : Keeps B b w w := ⟨rfl, rfl, rfl, Nat.le_refl _, fun _ _ _ => rfl⟩
theorem Keeps.below {B b : Nat} {w0 w w' : World} (h : Keeps B b w w') (hb : Below w0.heap.size w0 w) (h1 : w0.heap.size ≤ b) (h2 : w0.heap.size ≤ B) : Below w0.heap.size w0 w' :=
  ⟨h.os.trans hb.os, h.tape.trans hb.tape, h.output.trans hb.output, Nat.le_trans hb.size h.size, fun k hk => (h.block k (Nat.lt_of_lt_of_le hk h2) (by omega)).trans (hb.block k hk)⟩
theorem Keeps.set (B : Nat) (w : World) (b j : Nat) (u : Value) : Keeps B b w (w.setCell ⟨b, j, none⟩ u) :=
  ⟨rfl, rfl, rfl, by rw [World.size_setCell]; exact Nat.le_refl _, fun k _ hne => by
    simp [World.setCell, Array.getElem?_modify]
    intro e
    exact absurd e.symm hne⟩
theorem Keeps.alloc {B b : Nat} (w : World) (o : Obj) (hB : B ≤ w.heap.size) : Keeps B b w (w.alloc o) :=
  ⟨rfl, rfl, rfl, by simp, fun k hk _ => Lib.alloc_old w o k (by omega)⟩
theorem lt_of {w : World} {k : Nat} {o : Obj} (h : w.heap[k]? = some o) : k < w.heap.size := (Array.getElem?_eq_some_iff.1 h).1
theorem heap_set {w : World} {b j : Nat} {C : Array Value} {T : TypeId} {fz : Nat × Nat} (h : w.heap[b]? = some (.cells C T fz)) (u : Value) : (w.setCell ⟨b, j, none⟩ u).heap[b]? = some (.cells (C.setIfInBounds j u) T fz) := by
  have hlt := lt_of h
  simp [World.setCell, Array.getElem?_modify, h]
theorem Bw.new {w : World} {b B : Nat} (hb : b < B) (h : w.heap[b]? = some (.cells #[.pointer none, .slice none 0 0] 65 (0, 0))) : Bw B b [] w :=
  ⟨hb, _, _, .inl rfl, h, World.ownsRowF_nil _ _ _ _⟩
theorem Bw.kept {B b : Nat} {out : List UInt8} {w w' : World} (h : Bw B b out w) (hm : ∀ k, k < w.heap.size → w'.heap[k]? = w.heap[k]?) : Bw B b out w' := by
  obtain ⟨hb, p, v, hp, hh, hown⟩ := h
  refine ⟨hb, p, v, hp, (hm b (lt_of hh)).trans hh, hown.1, ?_⟩
  rcases hown.2 with hn | ⟨g, cap, cur, fz, hv, hbg, hg, rest⟩
  · exact .inl hn
  · exact .inr ⟨g, cap, cur, fz, hv, hbg, (hm g (lt_of hg)).trans hg, rest⟩
theorem Bw.toBld {B b : Nat} {out : List UInt8} {w : World} (h : Bw B b out w) : Bld b b out w := by
  obtain ⟨hb, p, v, hp, hh, hown⟩ := h
  have key : Lib.BuilderAtF 65 5 b b p (Lib.byteCells out) w := by
    refine ⟨Nat.le_refl _, v, hh, ?_, ?_⟩
    · rw [byteCells_len]
      refine ⟨hown.1, ?_⟩
      rcases hown.2 with hn | ⟨g, cap, cur, fz, hv, hbg, rest⟩
      · exact .inl hn
      · exact .inr ⟨g, cap, cur, fz, hv, by omega, rest⟩
    · intro e
      have := (hown.lt b e).1
      omega
  rcases hp with rfl | rfl
  · exact .inl key
  · exact .inr key
theorem Keeps.cell {B b : Nat} {w w' : World} (h : Keeps B b w w') {g i : Nat} (hg : g < B) (hne : g ≠ b) : w'.cell? ⟨g, i, none⟩ = w.cell? ⟨g, i, none⟩ :=
  World.cell?_of_block (a := ⟨g, i, none⟩) (h.block g hg hne)
theorem check_calls (B b : Nat) (out : List UInt8) (w : World) (h : Bw B b out w) :
    Calls Tryz.prog 71 #[.pointer (some ⟨b, 0, none⟩)] w fun e w' => e = .returned (.tuple #[]) ∧ Bw B b out w' ∧ Keeps B b w w' ∧ w'.heap.size = w.heap.size := by
  obtain ⟨hb, p, v, hp, hh, hown⟩ := h
  have c0 : w.cell? ⟨b, 0, none⟩ = some p := by rw [Lib.cell_of_heap hh]; rfl
  rcases hp with rfl | rfl
  · refine (Any.Builder_copyCheck_fresh SB.lays240 Tryz.Builder_Extra_159.toX72 b w c0 ?_ (Lib.frozen_of_heap hh 0)).mono ?_
    · unfold World.shape?
      rw [hh]
      rfl
    · rintro e w' ⟨h1, rfl⟩
      refine ⟨h1, ⟨hb, _, v, .inr rfl, heap_set hh _, hown.1, ?_⟩, Keeps.set B w b 0 _, World.size_setCell _ _ _⟩
      rcases hown.2 with hn | ⟨g, cap, cur, fz, hv, hbg, hg, rest⟩
      · exact .inl hn
      · have hne : g ≠ b := by omega
        refine .inr ⟨g, cap, cur, fz, hv, hbg, ?_, rest⟩
        rw [← hg]
        simp [World.setCell, Array.getElem?_modify]
        intro e
        exact absurd e.symm hne
  · refine (Any.Builder_copyCheck_used SB.lays240 Tryz.Builder_Extra_159.toX72 b w c0).mono ?_
    rintro e w' ⟨h1, rfl⟩
    exact ⟨h1, ⟨hb, _, v, .inr rfl, hh, hown⟩, Keeps.refl _ _ _, rfl⟩
theorem after_app {B b : Nat} {w w2 : World} {p v : Value} (hb : b < B) (hh : w.heap[b]? = some (.cells #[p, v] 65 (0, 0))) (hg : w.grownBy w2 v.ownBlock) (hv : ∀ k, v.ownBlock = some k → B ≤ k) (hB : B ≤ w.heap.size) :
    w2.heap[b]? = some (.cells #[p, v] 65 (0, 0)) ∧ Keeps B b w w2 :=
  ⟨(hg.block b (lt_of hh) (fun e => by have := hv b e.symm; omega)).trans hh, hg.os, hg.tape, hg.output, hg.size, fun k hk _ => hg.block k (by omega) (fun e => by have := hv k e.symm; omega)⟩
theorem put {B b : Nat} {out : List UInt8} {w : World} {p v v' : Value} (hb : b < B) (hp : p = .pointer none ∨ p = .pointer (some ⟨b, 0, none⟩)) (hh : w.heap[b]? = some (.cells #[p, v] 65 (0, 0))) (hown : w.ownsRowF B 5 1 v' out.length (Lib.byteCells out)) :
    Bw B b out (w.setCell ⟨b, 1, none⟩ v') := by
  refine ⟨hb, p, v', hp, heap_set hh v', hown.1, ?_⟩
  rcases hown.2 with hn | ⟨g, cap, cur, fz, hv, hbg, hg, rest⟩
  · exact .inl hn
  · have hne : g ≠ b := by omega
    refine .inr ⟨g, cap, cur, fz, hv, hbg, ?_, rest⟩
    rw [← hg]
    simp [World.setCell, Array.getElem?_modify]
    intro e
    exact absurd e.symm hne
set_option maxHeartbeats 1600000 in
set_option maxRecDepth 100000 in
theorem writeString_calls (B b : Nat) (out l : List UInt8) (w : World) (h : Bw B b out w) (hl : out.length + l.length ≤ 140737488355328) (hB : B ≤ w.heap.size) :
    Calls Tryz.prog 44 #[.pointer (some ⟨b, 0, none⟩), .string (mkS l)] w fun e w' => (∃ v, e = .returned v) ∧ Bw B b (out ++ l) w' ∧ Keeps B b w w' := by
  obtain ⟨i0, hi, hz0, hz1, hz2⟩ := info_parts Tryz.Builder_Extra_159.infoByte
  have HC := Lib.hid (check_calls B b out w h)
  have zl := mkS_size l
  clear h
  go_enter Tryz.func44, Tryz.ntmps44
  go_wp2_with fail
  refine HC.out.mono ?_
  rintro e w1 ⟨rfl, ⟨hb, p, v, hp, hh, hown⟩, hk, hz⟩
  have HK := Lib.hid hk
  have c0 : w1.cell? ⟨b, 0, none⟩ = some p := by rw [Lib.cell_of_heap hh]; rfl
  have c1 : w1.cell? ⟨b, 1, none⟩ = some v := by rw [Lib.cell_of_heap hh]; rfl
  go_wp2_with (at_builtin; refine Lib.wpList_append_own_stringF _ rfl _ _ 63 9 rfl B 5 i0 Tryz.underlying63 Tryz.underlying9 hi hz0 hz1 hz2 _ _ _ rfl hown (mkS l) rfl ?c3 ?c4 ?c5 ?_)
  case c3 => unfold maxLen; omega
  case c4 => omega
  case c5 => omega
  intro v' w2 hown' hgrow _
  obtain ⟨hb2, hk2⟩ := after_app hb hh hgrow (fun k hk => (hown.lt k hk).1) (by omega)
  have d0 : w2.cell? ⟨b, 0, none⟩ = some p := by rw [Lib.cell_of_heap hb2]; rfl
  have d1 : w2.cell? ⟨b, 1, none⟩ = some v := by rw [Lib.cell_of_heap hb2]; rfl
  have f1 : w2.frozen? ⟨b, 1, none⟩ = false := Lib.frozen_of_heap hb2 1
  have HO := Lib.hid hown'
  have HP := Lib.hid hp
  have HB2 := Lib.hid hb2
  have HK2 := Lib.hid (HK.out.trans hk2)
  obtain ⟨ao, n', cap, rfl⟩ : ∃ ao n' cap, v' = .slice ao n' cap := by
    rcases hown'.2 with ⟨hv, _⟩ | ⟨g, cap, cur, fz, hv, _⟩
    · exact ⟨_, _, _, hv⟩
    · exact ⟨_, _, _, hv⟩
  clear hown hown' hgrow hp hh hb2 hk hk2 c0 c1
  go_wp2
  go_ret2
  exact ⟨⟨_, rfl⟩, put hb HP.out HB2.out (by have := HO.out; rw [Bld.strCells_eq, Bld.byteCells_append] at this; rw [List.length_append]; exact this), HK2.out.trans (Keeps.set _ _ _ _ _)⟩
set_option maxHeartbeats 1600000 in
set_option maxRecDepth 100000 in
theorem writeByte_calls (B b : Nat) (out : List UInt8) (c : UInt8) (w : World) (h : Bw B b out w) (hl : out.length + 1 ≤ 140737488355328) (hB : B ≤ w.heap.size) :
    Calls Tryz.prog 103 #[.pointer (some ⟨b, 0, none⟩), .int .u8 (c.toNat : Int)] w fun e w' => (∃ v, e = .returned v) ∧ Bw B b (out ++ [c]) w' ∧ Keeps B b w w' := by
  obtain ⟨i0, hi, hz0, hz1, hz2⟩ := info_parts Tryz.Builder_Extra_159.infoByte
  have HC := Lib.hid (check_calls B b out w h)
  clear h
  go_enter Tryz.func103, Tryz.ntmps103
  go_wp2_with fail
  refine HC.out.mono ?_
  rintro e w1 ⟨rfl, ⟨hb, p, v, hp, hh, hown⟩, hk, hz⟩
  have HK := Lib.hid hk
  have c0 : w1.cell? ⟨b, 0, none⟩ = some p := by rw [Lib.cell_of_heap hh]; rfl
  have c1 : w1.cell? ⟨b, 1, none⟩ = some v := by rw [Lib.cell_of_heap hh]; rfl
  go_wp2_with (at_builtin; refine wpList_append_ownF _ rfl _ _ 63 rfl B 5 i0 (.int .u8 0) 1 1 Tryz.underlying63 hi hz0 hz1 hz2 rfl (by decide) _ _ _ rfl (hown.alloc _) ⟨w1.heap.size, 0, none⟩ 1 1 [.int .u8 (c.toNat : Int)] (by simp [Act.eval, hz]) rfl ?c1 ?c2 ?c3 ?c4 ?c5 ?_)
  case c1 =>
    intro j u hj
    match j, hj with
    | 0, hj => simp at hj; subst hj; simp [Addr.add]
  case c2 => intro u hu; simp at hu; subst hu; rfl
  case c3 => unfold maxLen; omega
  case c4 => omega
  case c5 => simp; omega
  intro v' w2 hown' hgrow _
  have hlt : b < w1.heap.size := lt_of hh
  obtain ⟨hb2, hk2⟩ := after_app (w := w1.alloc _) hb ((Lib.alloc_old w1 _ b hlt).trans hh) hgrow (fun k hk => (hown.lt k hk).1) (by simp; omega)
  have d0 : w2.cell? ⟨b, 0, none⟩ = some p := by rw [Lib.cell_of_heap hb2]; rfl
  have d1 : w2.cell? ⟨b, 1, none⟩ = some v := by rw [Lib.cell_of_heap hb2]; rfl
  have f1 : w2.frozen? ⟨b, 1, none⟩ = false := Lib.frozen_of_heap hb2 1
  have HO := Lib.hid hown'
  have HP := Lib.hid hp
  have HB2 := Lib.hid hb2
  have HK2 := Lib.hid ((HK.out.trans (Keeps.alloc (b := b) w1 _ (by omega))).trans hk2)
  obtain ⟨ao, n', cap, rfl⟩ : ∃ ao n' cap, v' = .slice ao n' cap := by
    rcases hown'.2 with ⟨hv, _⟩ | ⟨g, cap, cur, fz, hv, _⟩
    · exact ⟨_, _, _, hv⟩
    · exact ⟨_, _, _, hv⟩
  clear hown hown' hgrow hp hh hb2 hk hk2 c0 c1
  go_wp2
  go_ret
  exact ⟨⟨_, rfl⟩, put hb HP.out HB2.out (by have := HO.out; rw [show [Value.int .u8 (c.toNat : Int)] = Lib.byteCells [c] from rfl, Bld.byteCells_append] at this; simpa using this), HK2.out.trans (Keeps.set _ _ _ _ _)⟩
end Go.Proofs.YtmcoloapiiakbaaGreatDoor.Bw
