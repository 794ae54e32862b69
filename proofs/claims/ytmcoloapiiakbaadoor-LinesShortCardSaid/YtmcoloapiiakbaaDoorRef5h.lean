/-
  What the reference of lines answers: a line, whole.
-/
import Derived.Test.YtmcoloapiiakbaaDoorRef5g
set_option linter.unusedVariables false
set_option linter.unusedSimpArgs false
namespace Go.Proofs.YtmcoloapiiakbaaDoor.Ref5
open Go.RowKit Go.Lib Go.Proofs.YtmcoloapiiakbaaDoor.B Go.Proofs.YtmcoloapiiakbaaDoor.Rd Go.Proofs.YtmcoloapiiakbaaDoor.Utf Go.Proofs.YtmcoloapiiakbaaDoor.TermPure Go.Proofs.YtmcoloapiiakbaaDoor.LinesPure Go.Proofs.YtmcoloapiiakbaaDoor.Tx Go.Proofs.YtmcoloapiiakbaaDoor.Env Go.Proofs.YtmcoloapiiakbaaDoor.Tc

/-- A reader's state: none: it errs. -/
def AtO (w : World) (rb : Nat) (st : Option (List UInt8)) : Prop := At w rb (st.getD []) st.isNone
def StepO (w w' : World) (rb : Nat) (st : Option (List UInt8)) : Prop := Step w w' rb (st.getD []) st.isNone
/-- A term behind a state. -/
def Next (ref : Bool) (st : Option (List UInt8)) (t : Term) (st' : Option (List UInt8)) : Prop := match st with
  | none => st' = none
  | some s => match term ref s with
    | none => st' = none
    | some (t0, q) => t = t0 ∧ st' = some (blanks q)
/-- A line's end. -/
def lineEnd (t : Triple) (st : Option (List UInt8)) : Option (Option Triple) := match st with
  | none => none
  | some r => if [46].isPrefixOf r = true ∧ over (blanks (r.drop 1)) = true ∧ isTriple t = true then some (some t) else none
/-- What a line is, by its states. -/
theorem one_by (ref : Bool) (s : List UInt8) (hv : validD s = true) (ho : over (blanks s) = false) {a p o : Term} {s1 s2 s3 : Option (List UInt8)} (h1 : Next ref (some (blanks s)) a s1) (h2 : Next ref s1 p s2) (h3 : Next ref s2 o s3) :
    lineOf ref s = lineEnd ⟨a, p, o⟩ s3 := by
  rw [lineOf, hv, ho]
  simp only [Bool.true_eq_false, Bool.false_eq_true, if_false]
  unfold Next at h1
  dsimp only at h1
  cases t1 : term ref (blanks s) with
  | none =>
    rw [t1] at h1
    dsimp only at h1
    subst h1
    have : s2 = none := h2
    subst this
    have : s3 = none := h3
    subst this
    rfl
  | some q1 =>
    obtain ⟨a', r1⟩ := q1
    rw [t1] at h1
    obtain ⟨rfl, rfl⟩ := h1
    unfold Next at h2
    dsimp only at h2 ⊢
    cases t2 : term ref (blanks r1) with
    | none =>
      rw [t2] at h2
      dsimp only at h2
      subst h2
      have : s3 = none := h3
      subst this
      rfl
    | some q2 =>
      obtain ⟨p', r2⟩ := q2
      rw [t2] at h2
      obtain ⟨rfl, rfl⟩ := h2
      unfold Next at h3
      dsimp only at h3 ⊢
      cases t3 : term ref (blanks r2) with
      | none =>
        rw [t3] at h3
        dsimp only at h3
        subst h3
        rfl
      | some q3 =>
        obtain ⟨o', r3⟩ := q3
        rw [t3] at h3
        obtain ⟨rfl, rfl⟩ := h3
        rfl
/-- A triple's cells. -/
structure T9 (W : World) (g : Nat) (t : Triple) : Prop where
  s : TC W g 0 t.s
  p : TC W g 3 t.p
  o : TC W g 6 t.o
def zeroTr : Triple := ⟨zeroT, zeroT, zeroT⟩
/-- A line's answer. -/
def oneV (r : Option (Option Triple)) : Value := match r with
  | none => .tuple #[tripleV zeroTr, .bool false, .bool false]
  | some none => .tuple #[tripleV zeroTr, .bool false, .bool true]
  | some (some t) => .tuple #[tripleV t, .bool true, .bool true]
def FitsO (r : Option (Option Triple)) : Prop := ∀ t, r = some (some t) → FitsT t
theorem T9.other {W : World} {g g' j : Nat} {t : Triple} (h : T9 W g t) (hne : ¬ g = g') (u : Value) : T9 (W.setCell ⟨g', j, none⟩ u) g t := ⟨h.s.other hne u, h.p.other hne u, h.o.other hne u⟩
theorem T9.below {W W1 : World} {g : Nat} {t : Triple} (h : T9 W g t) (hb : Below W.heap.size W W1) : T9 W1 g t := ⟨h.s.below hb, h.p.below hb, h.o.below hb⟩
theorem T9.grown {W W1 : World} {g rb : Nat} {t : Triple} (h : T9 W g t) (hg : W.grownBy W1 (some rb)) (hne : ¬ g = rb) : T9 W1 g t := ⟨h.s.grown hg hne, h.p.grown hg hne, h.o.grown hg hne⟩
theorem T9.alloc {W : World} {g : Nat} {t : Triple} (h : T9 W g t) (x : Obj) : T9 (W.alloc x) g t := ⟨h.s.alloc x, h.p.alloc x, h.o.alloc x⟩
theorem T9.new (w : World) (t : Triple) : T9 (w.alloc (.cells #[.int .i64 t.s.kind, .string (mkS t.s.text), .string (mkS t.s.extra), .int .i64 t.p.kind, .string (mkS t.p.text), .string (mkS t.p.extra), .int .i64 t.o.kind, .string (mkS t.o.text), .string (mkS t.o.extra)] 26)) w.heap.size t := by
  constructor <;> constructor
  all_goals first | (unfold World.cell?; dsimp only; rw [Kd.heap_new]; rfl) | (unfold World.frozen?; dsimp only; rw [Kd.heap_new]; rfl)
theorem T9.setP {W : World} {g : Nat} {a p0 o0 : Term} (h : T9 W g ⟨a, p0, o0⟩) (p : Term) : T9 (((W.setCell ⟨g, 3, none⟩ (.int .i64 p.kind)).setCell ⟨g, 4, none⟩ (.string (mkS p.text))).setCell ⟨g, 5, none⟩ (.string (mkS p.extra))) g ⟨a, p, o0⟩ :=
  ⟨((h.s.apart (by decide) (by decide) (by decide) _).apart (by decide) (by decide) (by decide) _).apart (by decide) (by decide) (by decide) _, h.p.set p,
    ((h.o.apart (by decide) (by decide) (by decide) _).apart (by decide) (by decide) (by decide) _).apart (by decide) (by decide) (by decide) _⟩
theorem T9.setO {W : World} {g : Nat} {a p0 o0 : Term} (h : T9 W g ⟨a, p0, o0⟩) (o : Term) : T9 (((W.setCell ⟨g, 6, none⟩ (.int .i64 o.kind)).setCell ⟨g, 7, none⟩ (.string (mkS o.text))).setCell ⟨g, 8, none⟩ (.string (mkS o.extra))) g ⟨a, p0, o⟩ :=
  ⟨((h.s.apart (by decide) (by decide) (by decide) _).apart (by decide) (by decide) (by decide) _).apart (by decide) (by decide) (by decide) _,
    ((h.p.apart (by decide) (by decide) (by decide) _).apart (by decide) (by decide) (by decide) _).apart (by decide) (by decide) (by decide) _, h.o.set o⟩
theorem At.new (w : World) (s : List UInt8) (bad : Bool) (T : TypeId) (hs : s.length ≤ 70368744177664) : At (w.alloc (.cells #[.string (mkS s), .bool bad] T)) w.heap.size s bad := by
  refine ⟨?_, ?_, ?_, ?_, hs⟩
  all_goals first | (unfold World.cell?; dsimp only; rw [Kd.heap_new]; rfl) | (unfold World.frozen?; dsimp only; rw [Kd.heap_new]; rfl)
end Go.Proofs.YtmcoloapiiakbaaDoor.Ref5
