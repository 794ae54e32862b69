/-
  A term's cells in memory.
-/
import Derived.Test.YtmcoloapiiakbaaGreatDoorRef5f
set_option linter.unusedVariables false
set_option linter.unusedSimpArgs false
namespace Go.Proofs.YtmcoloapiiakbaaGreatDoor.Tc
open Go.RowKit Go.Lib Go.Proofs.YtmcoloapiiakbaaGreatDoor.B Go.Proofs.YtmcoloapiiakbaaGreatDoor.Rd Go.Proofs.YtmcoloapiiakbaaGreatDoor.TermPure Go.Proofs.YtmcoloapiiakbaaGreatDoor.Ref5

/-- A term lies at block g, from cell o on. -/
structure TC (W : World) (g o : Nat) (t : Term) : Prop where
  c0 : W.cell? ⟨g, o, none⟩ = some (.int .i64 t.kind)
  c1 : W.cell? ⟨g, o + 1, none⟩ = some (.string (mkS t.text))
  c2 : W.cell? ⟨g, o + 2, none⟩ = some (.string (mkS t.extra))
  f0 : W.frozen? ⟨g, o, none⟩ = false
  f1 : W.frozen? ⟨g, o + 1, none⟩ = false
  f2 : W.frozen? ⟨g, o + 2, none⟩ = false
theorem TC.lt {W : World} {g o : Nat} {t : Term} (h : TC W g o t) : g < W.heap.size := World.block_lt_of_cell? W ⟨g, o, none⟩ h.c0
theorem TC.moved {W W1 : World} {g o : Nat} {t : Term} (h : TC W g o t) (hc : ∀ o, W1.cell? ⟨g, o, none⟩ = W.cell? ⟨g, o, none⟩) (hf : ∀ o, W1.frozen? ⟨g, o, none⟩ = W.frozen? ⟨g, o, none⟩) : TC W1 g o t :=
  ⟨(hc _).trans h.c0, (hc _).trans h.c1, (hc _).trans h.c2, (hf _).trans h.f0, (hf _).trans h.f1, (hf _).trans h.f2⟩
theorem TC.below {W W1 : World} {g o : Nat} {t : Term} (h : TC W g o t) (hb : Below W.heap.size W W1) : TC W1 g o t :=
  h.moved (fun o => (bcell hb).1 g o h.lt) (fun o => (bcell hb).2 g o h.lt)
theorem TC.grown {W W1 : World} {g o rb : Nat} {t : Term} (h : TC W g o t) (hg : W.grownBy W1 (some rb)) (hne : ¬ g = rb) : TC W1 g o t :=
  h.moved (fun o => (gcell hg).1 g o h.lt hne) (fun o => (gcell hg).2 g o h.lt hne)
theorem TC.alloc {W : World} {g o : Nat} {t : Term} (h : TC W g o t) (x : Obj) : TC (W.alloc x) g o t := h.below ((Below.refl _ _).alloc (Nat.le_refl _) x)
theorem TC.other {W : World} {g o g' j : Nat} {t : Term} (h : TC W g o t) (hne : ¬ g = g') (u : Value) : TC (W.setCell ⟨g', j, none⟩ u) g o t :=
  h.moved (fun o => World.cell?_setCell_other _ _ _ _ (by simp; try (intro e; exact absurd e.symm hne))) (fun o => World.frozen?_setCell _ _ _ _)
theorem TC.new (w : World) (t : Term) : TC (w.alloc (.cells #[.int .i64 t.kind, .string (mkS t.text), .string (mkS t.extra)] 23)) w.heap.size 0 t := by
  constructor
  all_goals first | (unfold World.cell?; dsimp only; rw [Kd.heap_new]; rfl) | (unfold World.frozen?; dsimp only; rw [Kd.heap_new]; rfl)
theorem TC.set {W : World} {g o : Nat} {t0 : Term} (h : TC W g o t0) (t : Term) : TC (((W.setCell ⟨g, o, none⟩ (.int .i64 t.kind)).setCell ⟨g, o + 1, none⟩ (.string (mkS t.text))).setCell ⟨g, o + 2, none⟩ (.string (mkS t.extra))) g o t := by
  have e1 : (W.setCell ⟨g, o, none⟩ (.int .i64 t.kind)).cell? ⟨g, o, none⟩ = some (.int .i64 t.kind) := World.cell?_setCell_same _ _ _ h.c0
  have e2 : (W.setCell ⟨g, o, none⟩ (.int .i64 t.kind)).cell? ⟨g, o + 1, none⟩ = _ := (World.cell?_setCell_other _ _ _ _ (by simp)).trans h.c1
  have e3 : ((W.setCell ⟨g, o, none⟩ (.int .i64 t.kind)).setCell ⟨g, o + 1, none⟩ (.string (mkS t.text))).cell? ⟨g, o + 2, none⟩ = _ := (World.cell?_setCell_other _ _ _ _ (by simp)).trans ((World.cell?_setCell_other _ _ _ _ (by simp)).trans h.c2)
  refine ⟨?_, ?_, World.cell?_setCell_same _ _ _ e3, ?_, ?_, ?_⟩
  · rw [World.cell?_setCell_other _ _ _ _ (by simp), World.cell?_setCell_other _ _ _ _ (by simp)]
    exact e1
  · rw [World.cell?_setCell_other _ _ _ _ (by simp)]
    exact World.cell?_setCell_same _ _ _ e2
  · simp only [World.frozen?_setCell]; exact h.f0
  · simp only [World.frozen?_setCell]; exact h.f1
  · simp only [World.frozen?_setCell]; exact h.f2
theorem TC.apart {W : World} {g o j : Nat} {t : Term} (h : TC W g o t) (h0 : j ≠ o) (h1 : j ≠ o + 1) (h2 : j ≠ o + 2) (u : Value) : TC (W.setCell ⟨g, j, none⟩ u) g o t :=
  ⟨(World.cell?_setCell_other _ _ _ _ (by simp; try omega)).trans h.c0, (World.cell?_setCell_other _ _ _ _ (by simp; try omega)).trans h.c1, (World.cell?_setCell_other _ _ _ _ (by simp; try omega)).trans h.c2,
    (World.frozen?_setCell _ _ _ _).trans h.f0, (World.frozen?_setCell _ _ _ _).trans h.f1, (World.frozen?_setCell _ _ _ _).trans h.f2⟩
theorem TC.setK {W : World} {g o : Nat} {t : Term} (h : TC W g o t) (k : Int) : TC (W.setCell ⟨g, o, none⟩ (.int .i64 k)) g o ⟨k, t.text, t.extra⟩ :=
  ⟨World.cell?_setCell_same _ _ _ h.c0, (World.cell?_setCell_other _ _ _ _ (by simp)).trans h.c1, (World.cell?_setCell_other _ _ _ _ (by simp)).trans h.c2,
    (World.frozen?_setCell _ _ _ _).trans h.f0, (World.frozen?_setCell _ _ _ _).trans h.f1, (World.frozen?_setCell _ _ _ _).trans h.f2⟩
def zeroT : Term := ⟨0, [], []⟩
end Go.Proofs.YtmcoloapiiakbaaGreatDoor.Tc
