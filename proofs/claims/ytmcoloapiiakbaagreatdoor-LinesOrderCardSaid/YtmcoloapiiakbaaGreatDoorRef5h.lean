/-
  What the reference of lines answers: a line, whole.
-/
import Derived.Test.YtmcoloapiiakbaaGreatDoorRef5g
set_option linter.unusedVariables false
set_option linter.unusedSimpArgs false
namespace Go.Proofs.YtmcoloapiiakbaaGreatDoor.Ref5
open Go.RowKit Go.Lib Go.Proofs.YtmcoloapiiakbaaGreatDoor.B Go.Proofs.YtmcoloapiiakbaaGreatDoor.Rd Go.Proofs.YtmcoloapiiakbaaGreatDoor.Utf Go.Proofs.YtmcoloapiiakbaaGreatDoor.TermPure Go.Proofs.YtmcoloapiiakbaaGreatDoor.LinesPure Go.Proofs.YtmcoloapiiakbaaGreatDoor.Tx Go.Proofs.YtmcoloapiiakbaaGreatDoor.Env Go.Proofs.YtmcoloapiiakbaaGreatDoor.Tc

/-- A reader's state: none: it errs. -/
def AtO (w : World) (rb : Nat) (st : Option (List UInt8)) : Prop := At w rb (st.getD []) st.isNone
def StepO (w w' : World) (rb : Nat) (st : Option (List UInt8)) : Prop := Step w w' rb (st.getD []) st.isNone
/-- A term behind a state. -/
def Next (ref : Bool) (st : Option (List UInt8)) (t : Term) (st' : Option (List UInt8)) : Prop := match st with
  | none => st' = none
  | some s => match term ref s with
    | none => st' = none
    | some (t0, q) => t = t0 ∧ st' = some (blanks q)
theorem term_any_calls (rb : Nat) (st : Option (List UInt8)) (w : World) (he : Env w) (hrb : lowB ≤ rb) (h : AtO w rb st) :
    Calls Tryz.prog 33 #[.pointer (some ⟨rb, 0, none⟩)] w fun e w' => ∃ t st', (e = .returned (termV t) ∧ Fits t) ∧ StepO w w' rb st' ∧ Next true st t st' := by
  cases st with
  | none =>
    refine (term_bad_calls rb w h).mono ?_
    rintro e w' ⟨⟨t, h1, h2⟩, h3⟩
    exact ⟨t, none, ⟨h1, h2⟩, h3, rfl⟩
  | some s =>
    refine (term_calls rb s w he hrb h).mono ?_
    intro e w' hp
    unfold Next
    dsimp only
    cases ht : term true s with
    | none =>
      rw [ht] at hp
      obtain ⟨⟨t, h1, h2⟩, h3⟩ := hp
      exact ⟨t, none, ⟨h1, h2⟩, h3, rfl⟩
    | some p =>
      obtain ⟨t, q⟩ := p
      rw [ht] at hp
      obtain ⟨⟨h1, h2⟩, h3⟩ := hp
      exact ⟨t, some (blanks q), ⟨h1, h2⟩, h3, rfl, rfl⟩
/-- A line's end. -/
def lineEnd (t : Triple) (st : Option (List UInt8)) : Option (Option Triple) := match st with
  | none => none
  | some r => if [46].isPrefixOf r = true ∧ over (blanks (r.drop 1)) = true ∧ isTriple t = true then some (some t) else none
/-- What a line is, by its states. -/
theorem one_by (ref : Bool) (s : List UInt8) (hv : validD s = true) (ho : over (blanks s) = false) {a p o : Term} {s1 s2 s3 : Option (List UInt8)} (h1 : Next ref (some (blanks s)) a s1) (h2 : Next ref s1 p s2) (h3 : Next ref s2 o s3) :
    lineOf ref s = lineEnd ⟨a, p, o⟩ s3 := by
  rw [lineOf, hv, ho]
  simp only [Bool.true_eq_false, Bool.false_eq_true, if_false]
  unfold Next at h1
  dsimp only at h1
  cases t1 : term ref (blanks s) with
  | none =>
    rw [t1] at h1
    dsimp only at h1
    subst h1
    have : s2 = none := h2
    subst this
    have : s3 = none := h3
    subst this
    rfl
  | some q1 =>
    obtain ⟨a', r1⟩ := q1
    rw [t1] at h1
    obtain ⟨rfl, rfl⟩ := h1
    unfold Next at h2
    dsimp only at h2 ⊢
    cases t2 : term ref (blanks r1) with
    | none =>
      rw [t2] at h2
      dsimp only at h2
      subst h2
      have : s3 = none := h3
      subst this
      rfl
    | some q2 =>
      obtain ⟨p', r2⟩ := q2
      rw [t2] at h2
      obtain ⟨rfl, rfl⟩ := h2
      unfold Next at h3
      dsimp only at h3 ⊢
      cases t3 : term ref (blanks r2) with
      | none =>
        rw [t3] at h3
        dsimp only at h3
        subst h3
        rfl
      | some q3 =>
        obtain ⟨o', r3⟩ := q3
        rw [t3] at h3
        obtain ⟨rfl, rfl⟩ := h3
        rfl
/-- A triple's cells. -/
structure T9 (W : World) (g : Nat) (t : Triple) : Prop where
  s : TC W g 0 t.s
  p : TC W g 3 t.p
  o : TC W g 6 t.o
def zeroTr : Triple := ⟨zeroT, zeroT, zeroT⟩
/-- A line's answer. -/
def oneV (r : Option (Option Triple)) : Value := match r with
  | none => .tuple #[tripleV zeroTr, .bool false, .bool false]
  | some none => .tuple #[tripleV zeroTr, .bool false, .bool true]
  | some (some t) => .tuple #[tripleV t, .bool true, .bool true]
def FitsO (r : Option (Option Triple)) : Prop := ∀ t, r = some (some t) → FitsT t
theorem T9.other {W : World} {g g' j : Nat} {t : Triple} (h : T9 W g t) (hne : ¬ g = g') (u : Value) : T9 (W.setCell ⟨g', j, none⟩ u) g t := ⟨h.s.other hne u, h.p.other hne u, h.o.other hne u⟩
theorem T9.below {W W1 : World} {g : Nat} {t : Triple} (h : T9 W g t) (hb : Below W.heap.size W W1) : T9 W1 g t := ⟨h.s.below hb, h.p.below hb, h.o.below hb⟩
theorem T9.grown {W W1 : World} {g rb : Nat} {t : Triple} (h : T9 W g t) (hg : W.grownBy W1 (some rb)) (hne : ¬ g = rb) : T9 W1 g t := ⟨h.s.grown hg hne, h.p.grown hg hne, h.o.grown hg hne⟩
theorem T9.alloc {W : World} {g : Nat} {t : Triple} (h : T9 W g t) (x : Obj) : T9 (W.alloc x) g t := ⟨h.s.alloc x, h.p.alloc x, h.o.alloc x⟩
theorem T9.new (w : World) (t : Triple) : T9 (w.alloc (.cells #[.int .i64 t.s.kind, .string (mkS t.s.text), .string (mkS t.s.extra), .int .i64 t.p.kind, .string (mkS t.p.text), .string (mkS t.p.extra), .int .i64 t.o.kind, .string (mkS t.o.text), .string (mkS t.o.extra)] 25)) w.heap.size t := by
  constructor <;> constructor
  all_goals first | (unfold World.cell?; dsimp only; rw [Kd.heap_new]; rfl) | (unfold World.frozen?; dsimp only; rw [Kd.heap_new]; rfl)
theorem T9.setP {W : World} {g : Nat} {a p0 o0 : Term} (h : T9 W g ⟨a, p0, o0⟩) (p : Term) : T9 (((W.setCell ⟨g, 3, none⟩ (.int .i64 p.kind)).setCell ⟨g, 4, none⟩ (.string (mkS p.text))).setCell ⟨g, 5, none⟩ (.string (mkS p.extra))) g ⟨a, p, o0⟩ :=
  ⟨((h.s.apart (by decide) (by decide) (by decide) _).apart (by decide) (by decide) (by decide) _).apart (by decide) (by decide) (by decide) _, h.p.set p,
    ((h.o.apart (by decide) (by decide) (by decide) _).apart (by decide) (by decide) (by decide) _).apart (by decide) (by decide) (by decide) _⟩
theorem T9.setO {W : World} {g : Nat} {a p0 o0 : Term} (h : T9 W g ⟨a, p0, o0⟩) (o : Term) : T9 (((W.setCell ⟨g, 6, none⟩ (.int .i64 o.kind)).setCell ⟨g, 7, none⟩ (.string (mkS o.text))).setCell ⟨g, 8, none⟩ (.string (mkS o.extra))) g ⟨a, p0, o⟩ :=
  ⟨((h.s.apart (by decide) (by decide) (by decide) _).apart (by decide) (by decide) (by decide) _).apart (by decide) (by decide) (by decide) _,
    ((h.p.apart (by decide) (by decide) (by decide) _).apart (by decide) (by decide) (by decide) _).apart (by decide) (by decide) (by decide) _, h.o.set o⟩
theorem At.new (w : World) (s : List UInt8) (bad : Bool) (T : TypeId) (hs : s.length ≤ 70368744177664) : At (w.alloc (.cells #[.string (mkS s), .bool bad] T)) w.heap.size s bad := by
  refine ⟨?_, ?_, ?_, ?_, hs⟩
  all_goals first | (unfold World.cell?; dsimp only; rw [Kd.heap_new]; rfl) | (unfold World.frozen?; dsimp only; rw [Kd.heap_new]; rfl)
set_option maxRecDepth 100000 in
set_option maxHeartbeats 6400000 in
theorem one_calls (s : List UInt8) (hs : s.length ≤ 70368744177664) (w : World) (he : Env w) :
    Calls Tryz.prog 11 #[.string (mkS s)] w fun e w' => (e = .returned (oneV (lineOf true s)) ∧ FitsO (lineOf true s)) ∧ Below w.heap.size w w' := by
  have hlow := he.low
  have zs := mkS_toList s
  have HB0 := Lib.hid (bel_alloc (Below.refl w.heap.size w) (.cells #[.int .i64 0, .string (mkS []), .string (mkS []), .int .i64 0, .string (mkS []), .string (mkS []), .int .i64 0, .string (mkS []), .string (mkS [])] 25))
  have HT0 := Lib.hid (T9.new w zeroTr)
  have HE0 := Lib.hid (he.below HB0.out)
  clear he
  go_enter Tryz.func11, Tryz.ntmps11
  go_wp2_with fail
  refine (valid_calls s (by omega) _ HE0.out).mono ?_
  rintro e w1 ⟨rfl, hb1⟩
  have HB1 := Lib.hid (bel_step HB0.out hb1)
  have HT1 := Lib.hid (HT0.out.below hb1)
  have HE1 := Lib.hid (HE0.out.below hb1)
  have hz1 : w.heap.size < w1.heap.size := HT1.out.s.lt
  have hrb : lowB ≤ w1.heap.size := by omega
  have hn2 : ¬ w.heap.size = w1.heap.size := by omega
  have hn2' : ¬ w1.heap.size = w.heap.size := by omega
  clear hb1
  cases hv : validD s with
  | false =>
    have HO : Hid (lineOf true s = none) := Lib.hid (by rw [lineOf, if_pos hv])
    obtain ⟨⟨p0, p1, p2, p9, p10, p11⟩, ⟨p3, p4, p5, p12, p13, p14⟩, ⟨p6, p7, p8, p15, p16, p17⟩⟩ := HT1.out
    simp only [Nat.zero_add, Nat.reduceAdd] at p1 p2 p4 p5 p7 p8 p10 p11 p13 p14 p16 p17
    dsimp only [zeroTr, zeroT] at *
    clear hv
    go_wp2
    refine bodyPost_ret (v := oneV none) (by simp [results, Tryz.results11, go_sem, p0, p1, p2, p3, p4, p5, p6, p7, p8, oneV, tripleV, zeroTr, zeroT, mkS_nil]) rfl ?_
    rw [HO.out]
    refine ⟨⟨rfl, fun t ht => by cases ht⟩, ?_⟩
    exact bel_set (bel_set (bel_set (bel_set (bel_set (bel_set (bel_set (bel_set (bel_set HB1.out (Nat.le_refl _) _) (Nat.le_refl _) _) (Nat.le_refl _) _) (Nat.le_refl _) _) (Nat.le_refl _) _) (Nat.le_refl _) _) (Nat.le_refl _) _) (Nat.le_refl _) _) (Nat.le_refl _) _
  | true =>
    have HS1 := Lib.hid (Step.refl (At.new w1 s false 54 hs))
    have HB2 := Lib.hid (bel_alloc HB1.out (.cells #[.string (mkS s), .bool false] 54))
    have HT2 := Lib.hid (HT1.out.alloc (.cells #[.string (mkS s), .bool false] 54))
    have HE2 := Lib.hid (HE1.out.below (bel_alloc (Below.refl _ _) (.cells #[.string (mkS s), .bool false] 54)))
    have HO1 : Hid (over (blanks s) = true → lineOf true s = some none) := Lib.hid (fun h => by rw [lineOf, hv, h]; rfl)
    have HO2 := Lib.hid (fun (ho : over (blanks s) = false) (a p o : Term) (s1 s2 s3 : Option (List UInt8)) h1 h2 h3 => one_by true s hv ho (a := a) (p := p) (o := o) (s1 := s1) (s2 := s2) (s3 := s3) h1 h2 h3)
    clear hv
    go_wp2_with fail
    refine (blanks_calls _ s false _ HS1.out.at').mono ?_
    rintro e w2 ⟨rfl, hs2⟩
    have HS2 := Lib.hid hs2
    have HT3 := Lib.hid (HT2.out.grown hs2.grown hn2)
    have HE3 := Lib.hid (HE2.out.grown hs2.grown hrb)
    have hz2 : w1.heap.size < w2.heap.size := hs2.at'.lt
    clear hs2
    generalize blanks s = l at *
    have zl := mkS_toList l
    have hov : Hid (over l = (decide (l = []) || ([35] : List UInt8).isPrefixOf l)) := Lib.hid rfl
    obtain ⟨a0, a1, b0, b1, _⟩ := HS2.out.at'
    go_upto_region 5 with fail
    go_cut [24] (fun v24 wx => v24 = .bool (over l) ∧ wx = w2)
    case first =>
      cases l with
      | nil =>
        go_wp2
        go_meet
        exact ⟨rfl, by first | rfl | trivial⟩
      | cons b t =>
        have hE : (b :: t).isEmpty = false := rfl
        have hE' : ¬ (b :: t) = [] := by simp
        have hb := Lib.hid (show over (b :: t) = ([35] : List UInt8).isPrefixOf (b :: t) by rw [hov.out]; simp)
        generalize (b :: t : List UInt8) = L at *
        go_wp2_with fail
        refine (has_calls _ L [35] false (by decide) _ HS2.out.at').mono ?_
        rintro e w3 ⟨rfl, rfl⟩
        generalize ([35] : List UInt8).isPrefixOf L = r at *
        cases r
        all_goals go_wp2
        all_goals go_meet
        all_goals exact ⟨by rw [hb.out], by first | rfl | trivial⟩
    case rest =>
      obtain ⟨rfl, rfl⟩ := hcut
      clear zl hov a0 a1 b0 b1 zs
      cases ho : over l with
      | true =>
        have HO := Lib.hid (HO1.out ho)
        obtain ⟨⟨p0, p1, p2, p9, p10, p11⟩, ⟨p3, p4, p5, p12, p13, p14⟩, ⟨p6, p7, p8, p15, p16, p17⟩⟩ := HT3.out
        simp only [Nat.zero_add, Nat.reduceAdd] at p1 p2 p4 p5 p7 p8 p10 p11 p13 p14 p16 p17
        dsimp only [zeroTr, zeroT] at *
        clear ho HO1 HO2
        go_wp2
        refine bodyPost_ret (v := oneV (some none)) (by simp [results, Tryz.results11, go_sem, p0, p1, p2, p3, p4, p5, p6, p7, p8, oneV, tripleV, zeroTr, zeroT, mkS_nil]) rfl ?_
        rw [HO.out]
        refine ⟨⟨rfl, fun t ht => by cases ht⟩, ?_⟩
        exact (bel_set (bel_set (bel_set (bel_set (bel_set (bel_set (bel_set (bel_set (bel_set (HS2.out.seen HB2.out (by omega)) (Nat.le_refl _) _) (Nat.le_refl _) _) (Nat.le_refl _) _) (Nat.le_refl _) _) (Nat.le_refl _) _) (Nat.le_refl _) _) (Nat.le_refl _) _) (Nat.le_refl _) _) (Nat.le_refl _) _)
      | false =>
        have HO := Lib.hid (HO2.out ho)
        clear ho HO1 HO2
        have hS2 : StepO (w1.alloc (.cells #[.string (mkS s), .bool false] 54)) wc w1.heap.size (some l) := HS2.out
        go_wp2_with fail
        refine (term_any_calls _ (some l) _ HE3.out hrb hS2.at').mono ?_
        rintro e w3 ⟨⟨ak, ax, ay⟩, s1, ⟨rfl, fa⟩, hs3, hn1⟩
        unfold termV
        have HS3 := Lib.hid (hS2.trans hs3)
        have HT4 := Lib.hid (HT3.out.grown hs3.grown hn2)
        have HE4 := Lib.hid (HE3.out.grown hs3.grown hrb)
        have hz3 : w1.heap.size < w3.heap.size := hs3.at'.lt
        have FA := Lib.hid fa
        have N1 := Lib.hid hn1
        clear hS2 hs3 hn1 fa
        have hn3 : ¬ w3.heap.size = w1.heap.size := by omega
        have hn4 : ¬ w3.heap.size = w.heap.size := by omega
        have hn4' : ¬ w.heap.size = w3.heap.size := by omega
        have HU4 := Lib.hid (T9.new w3 ⟨⟨ak, ax, ay⟩, zeroT, zeroT⟩)
        have HS4 := Lib.hid (HS3.out.alloc (.cells #[.int .i64 ak, .string (mkS ax), .string (mkS ay), .int .i64 0, .string (mkS []), .string (mkS []), .int .i64 0, .string (mkS []), .string (mkS [])] 25))
        have HT5 := Lib.hid (HT4.out.alloc (.cells #[.int .i64 ak, .string (mkS ax), .string (mkS ay), .int .i64 0, .string (mkS []), .string (mkS []), .int .i64 0, .string (mkS []), .string (mkS [])] 25))
        have HE5 := Lib.hid (HE4.out.below (bel_alloc (Below.refl _ _) (.cells #[.int .i64 ak, .string (mkS ax), .string (mkS ay), .int .i64 0, .string (mkS []), .string (mkS []), .int .i64 0, .string (mkS []), .string (mkS [])] 25)))
        go_wp2_with fail
        refine (term_any_calls _ s1 _ HE5.out hrb HS4.out.at').mono ?_
        rintro e w4 ⟨⟨bk, bx, bY⟩, s2, ⟨rfl, fb⟩, hs5, hm⟩
        unfold termV
        have HS5 := Lib.hid (HS4.out.trans hs5)
        have HU5 := Lib.hid (HU4.out.grown hs5.grown hn3)
        have HT6 := Lib.hid (HT5.out.grown hs5.grown hn2)
        have HE6 := Lib.hid (HE5.out.grown hs5.grown hrb)
        have hz4 : w3.heap.size < w4.heap.size := HU5.out.s.lt
        have FB := Lib.hid fb
        have N2 := Lib.hid hm
        clear hs5 hm fb
        obtain ⟨⟨u0, u1, u2, u9, u10, u11⟩, ⟨u3, u4, u5, u12, u13, u14⟩, ⟨u6, u7, u8, u15, u16, u17⟩⟩ := HU5.out
        simp only [Nat.zero_add, Nat.reduceAdd] at u1 u2 u4 u5 u7 u8 u10 u11 u13 u14 u16 u17
        dsimp only [zeroTr, zeroT] at *
        have HS6 : Hid (StepO (w1.alloc (.cells #[.string (mkS s), .bool false] 54)) _ w1.heap.size s2) := Lib.hid (((HS5.out.other (g := w3.heap.size) (j := 3) (by simp; omega) hn3 (.int .i64 bk)).other (g := w3.heap.size) (j := 4) (by simp; omega) hn3 (.string (mkS bx))).other (g := w3.heap.size) (j := 5) (by simp; omega) hn3 (.string (mkS bY)))
        have HU6 := Lib.hid (HU5.out.setP ⟨bk, bx, bY⟩)
        have HT7 := Lib.hid (((HT6.out.other (g' := w3.heap.size) (j := 3) hn4' (.int .i64 bk)).other (g' := w3.heap.size) (j := 4) hn4' (.string (mkS bx))).other (g' := w3.heap.size) (j := 5) hn4' (.string (mkS bY)))
        have HE7 := Lib.hid (((HE6.out.set (g := w3.heap.size) (j := 3) (by omega) (.int .i64 bk)).set (g := w3.heap.size) (j := 4) (by omega) (.string (mkS bx))).set (g := w3.heap.size) (j := 5) (by omega) (.string (mkS bY)))
        go_wp2_with fail
        refine (term_any_calls _ s2 _ HE7.out hrb HS6.out.at').mono ?_
        rintro e w5 ⟨⟨ck, cx, cy⟩, s3, ⟨rfl, fc⟩, hs7, hm⟩
        unfold termV
        clear u0 u1 u2 u3 u4 u5 u6 u7 u8 u9 u10 u11 u12 u13 u14 u15 u16 u17
        have HS7 := Lib.hid (HS6.out.trans hs7)
        have HU7 := Lib.hid (HU6.out.grown hs7.grown hn3)
        have HT8 := Lib.hid (HT7.out.grown hs7.grown hn2)
        have HE8 := Lib.hid (HE7.out.grown hs7.grown hrb)
        have hz5 : w3.heap.size < w5.heap.size := HU7.out.s.lt
        have FC := Lib.hid fc
        have HO3 := Lib.hid (HO.out _ _ _ _ _ _ N1.out N2.out hm)
        clear hs7 hm fc HO N1 N2
        obtain ⟨⟨u0, u1, u2, u9, u10, u11⟩, ⟨u3, u4, u5, u12, u13, u14⟩, ⟨u6, u7, u8, u15, u16, u17⟩⟩ := HU7.out
        simp only [Nat.zero_add, Nat.reduceAdd] at u1 u2 u4 u5 u7 u8 u10 u11 u13 u14 u16 u17
        dsimp only [zeroTr, zeroT] at *
        have HS8 : Hid (StepO (w1.alloc (.cells #[.string (mkS s), .bool false] 54)) _ w1.heap.size s3) := Lib.hid (((HS7.out.other (g := w3.heap.size) (j := 6) (by simp; omega) hn3 (.int .i64 ck)).other (g := w3.heap.size) (j := 7) (by simp; omega) hn3 (.string (mkS cx))).other (g := w3.heap.size) (j := 8) (by simp; omega) hn3 (.string (mkS cy)))
        have HU8 := Lib.hid (HU7.out.setO ⟨ck, cx, cy⟩)
        have HT9 := Lib.hid (((HT8.out.other (g' := w3.heap.size) (j := 6) hn4' (.int .i64 ck)).other (g' := w3.heap.size) (j := 7) hn4' (.string (mkS cx))).other (g' := w3.heap.size) (j := 8) hn4' (.string (mkS cy)))
        have HE9 := Lib.hid (((HE8.out.set (g := w3.heap.size) (j := 6) (by omega) (.int .i64 ck)).set (g := w3.heap.size) (j := 7) (by omega) (.string (mkS cx))).set (g := w3.heap.size) (j := 8) (by omega) (.string (mkS cy)))
        go_upto_region 10 with fail
        clear u0 u1 u2 u3 u4 u5 u6 u7 u8 u9 u10 u11 u12 u13 u14 u15 u16 u17
        have hz6 : w3.heap.size < w5.heap.size := hz5
        generalize (((w5.setCell ⟨w3.heap.size, 6, none⟩ (.int .i64 ck)).setCell ⟨w3.heap.size, 7, none⟩ (.string (mkS cx))).setCell ⟨w3.heap.size, 8, none⟩ (.string (mkS cy))) = w6 at *
        have hz7 : w3.heap.size < w6.heap.size := HU8.out.s.lt
        clear HS7 HU7 HT8 HE8 HS6 HU6 HT7 HE7 HS5 HU5 HT6 HE6 HS4 HU4 HT5 HE5 HS3 HT4 HE4 HS2 HT3 HE3 HT2 HE2 HT1 HE1 HT0 HE0 HB1 HB0 HS1
        cases s3 with
        | none =>
          have HN : Hid (lineOf true s = none) := HO3
          obtain ⟨a0, a1, b0, b1, _⟩ := HS8.out.at'
          dsimp only [Option.isNone, Option.getD] at a0 a1
          obtain ⟨⟨p0, p1, p2, p9, p10, p11⟩, ⟨p3, p4, p5, p12, p13, p14⟩, ⟨p6, p7, p8, p15, p16, p17⟩⟩ := HT9.out
          simp only [Nat.zero_add, Nat.reduceAdd] at p1 p2 p4 p5 p7 p8 p10 p11 p13 p14 p16 p17
          dsimp only [zeroTr, zeroT] at *
          obtain ⟨⟨u0, u1, u2, u9, u10, u11⟩, ⟨u3, u4, u5, u12, u13, u14⟩, ⟨u6, u7, u8, u15, u16, u17⟩⟩ := HU8.out
          simp only [Nat.zero_add, Nat.reduceAdd] at u1 u2 u4 u5 u7 u8 u10 u11 u13 u14 u16 u17
          dsimp only [zeroTr, zeroT] at *
          clear HO3
          go_wp2
          refine bodyPost_ret (v := oneV none) (by simp [results, Tryz.results11, go_sem, p0, p1, p2, p3, p4, p5, p6, p7, p8, oneV, tripleV, zeroTr, zeroT, mkS_nil]) rfl ?_
          rw [HN.out]
          refine ⟨⟨rfl, fun t ht => by cases ht⟩, ?_⟩
          exact (bel_set (bel_set (bel_set (bel_set (bel_set (bel_set (bel_set (bel_set (bel_set (HS8.out.seen HB2.out (by omega)) (Nat.le_refl _) _) (Nat.le_refl _) _) (Nat.le_refl _) _) (Nat.le_refl _) _) (Nat.le_refl _) _) (Nat.le_refl _) _) (Nat.le_refl _) _) (Nat.le_refl _) _) (Nat.le_refl _) _)
        | some r =>
          have HN : Hid (lineOf true s = if [46].isPrefixOf r = true ∧ over (blanks (r.drop 1)) = true ∧ isTriple ⟨⟨ak, ax, ay⟩, ⟨bk, bx, bY⟩, ⟨ck, cx, cy⟩⟩ = true then some (some ⟨⟨ak, ax, ay⟩, ⟨bk, bx, bY⟩, ⟨ck, cx, cy⟩⟩) else none) := HO3
          have HS9 : Hid (Step (w1.alloc (.cells #[.string (mkS s), .bool false] 54)) w6 w1.heap.size r false) := HS8
          obtain ⟨a0, a1, b0, b1, hrl⟩ := HS9.out.at'
          have zr := mkS_size r
          obtain ⟨⟨p0, p1, p2, p9, p10, p11⟩, ⟨p3, p4, p5, p12, p13, p14⟩, ⟨p6, p7, p8, p15, p16, p17⟩⟩ := HT9.out
          simp only [Nat.zero_add, Nat.reduceAdd] at p1 p2 p4 p5 p7 p8 p10 p11 p13 p14 p16 p17
          dsimp only [zeroTr, zeroT] at *
          obtain ⟨⟨u0, u1, u2, u9, u10, u11⟩, ⟨u3, u4, u5, u12, u13, u14⟩, ⟨u6, u7, u8, u15, u16, u17⟩⟩ := HU8.out
          simp only [Nat.zero_add, Nat.reduceAdd] at u1 u2 u4 u5 u7 u8 u10 u11 u13 u14 u16 u17
          dsimp only [zeroTr, zeroT] at *
          clear HO3 HS8
          go_wp2_with fail
          refine (has_calls _ r [46] false (by decide) _ HS9.out.at').mono ?_
          rintro e w7 ⟨rfl, rfl⟩
          cases hd : ([46] : List UInt8).isPrefixOf r with
          | false =>
            have HN1 : Hid (lineOf true s = none) := Lib.hid (HN.out.trans (if_neg (fun h => by rw [hd] at h; exact absurd h.1 (by decide))))
            clear hd HN
            go_wp2
            refine bodyPost_ret (v := oneV none) (by simp [results, Tryz.results11, go_sem, p0, p1, p2, p3, p4, p5, p6, p7, p8, oneV, tripleV, zeroTr, zeroT, mkS_nil]) rfl ?_
            rw [HN1.out]
            refine ⟨⟨rfl, fun t ht => by cases ht⟩, ?_⟩
            exact (bel_set (bel_set (bel_set (bel_set (bel_set (bel_set (bel_set (bel_set (bel_set (HS9.out.seen HB2.out (by omega)) (Nat.le_refl _) _) (Nat.le_refl _) _) (Nat.le_refl _) _) (Nat.le_refl _) _) (Nat.le_refl _) _) (Nat.le_refl _) _) (Nat.le_refl _) _) (Nat.le_refl _) _) (Nat.le_refl _) _)
          | true =>
            go_wp2_with fail
            refine (is5_calls ⟨⟨ak, ax, ay⟩, ⟨bk, bx, bY⟩, ⟨ck, cx, cy⟩⟩ ⟨FA.out, FB.out, FC.out⟩ _ HE9.out).mono ?_
            rintro e w8 ⟨rfl, hb8⟩
            have HS10 := Lib.hid (HS9.out.below hb8)
            have HU10 := Lib.hid (HU8.out.below hb8)
            have HT10 := Lib.hid (HT9.out.below hb8)
            clear u0 u1 u2 u3 u4 u5 u6 u7 u8 u9 u10 u11 u12 u13 u14 u15 u16 u17
            clear p0 p1 p2 p3 p4 p5 p6 p7 p8 p9 p10 p11 p12 p13 p14 p15 p16 p17
            clear a0 a1 b0 b1 hb8
            obtain ⟨a0, a1, b0, b1, _⟩ := HS10.out.at'
            obtain ⟨⟨p0, p1, p2, p9, p10, p11⟩, ⟨p3, p4, p5, p12, p13, p14⟩, ⟨p6, p7, p8, p15, p16, p17⟩⟩ := HT10.out
            simp only [Nat.zero_add, Nat.reduceAdd] at p1 p2 p4 p5 p7 p8 p10 p11 p13 p14 p16 p17
            dsimp only [zeroTr, zeroT] at *
            obtain ⟨⟨u0, u1, u2, u9, u10, u11⟩, ⟨u3, u4, u5, u12, u13, u14⟩, ⟨u6, u7, u8, u15, u16, u17⟩⟩ := HU10.out
            simp only [Nat.zero_add, Nat.reduceAdd] at u1 u2 u4 u5 u7 u8 u10 u11 u13 u14 u16 u17
            dsimp only [zeroTr, zeroT] at *
            cases hi : isTriple ⟨⟨ak, ax, ay⟩, ⟨bk, bx, bY⟩, ⟨ck, cx, cy⟩⟩ with
            | false =>
              have HN1 : Hid (lineOf true s = none) := Lib.hid (HN.out.trans (if_neg (fun h => by rw [hi] at h; exact absurd h.2.2 (by decide))))
              clear hd hi HN
              go_wp2
              refine bodyPost_ret (v := oneV none) (by simp [results, Tryz.results11, go_sem, p0, p1, p2, p3, p4, p5, p6, p7, p8, oneV, tripleV, zeroTr, zeroT, mkS_nil]) rfl ?_
              rw [HN1.out]
              refine ⟨⟨rfl, fun t ht => by cases ht⟩, ?_⟩
              exact (bel_set (bel_set (bel_set (bel_set (bel_set (bel_set (bel_set (bel_set (bel_set (HS10.out.seen HB2.out (by omega)) (Nat.le_refl _) _) (Nat.le_refl _) _) (Nat.le_refl _) _) (Nat.le_refl _) _) (Nat.le_refl _) _) (Nat.le_refl _) _) (Nat.le_refl _) _) (Nat.le_refl _) _) (Nat.le_refl _) _)
            | true =>
              have hl1 := prefix_len _ _ hd
              have hx := drop1 r
              have hi1 : (1 : Int) ≤ (r.length : Int) := by simp at hl1; omega
              replace HN := Lib.hid (show lineOf true s = if over (blanks (r.drop 1)) = true then some (some ⟨⟨ak, ax, ay⟩, ⟨bk, bx, bY⟩, ⟨ck, cx, cy⟩⟩) else none by rw [HN.out, hd, hi]; simp)
              obtain ⟨q, hq⟩ : ∃ q, r.drop 1 = q := ⟨_, rfl⟩
              have hql : q.length ≤ r.length := by rw [← hq]; simp
              rw [hq] at HN hx
              clear hd hi hq
              have HS11 := Lib.hid (HS10.out.set0 (t := q) (by omega))
              have HU11 := Lib.hid (HU10.out.other (j := 0) hn3 (.string (mkS q)))
              have HT11 := Lib.hid (HT10.out.other (j := 0) hn2 (.string (mkS q)))
              go_wp2_with fail
              refine (blanks_calls _ q false _ HS11.out.at').mono ?_
              rintro e w9 ⟨rfl, hs9⟩
              have HS12 := Lib.hid (HS11.out.trans hs9)
              have HU12 := Lib.hid (HU11.out.grown hs9.grown hn3)
              have HT12 := Lib.hid (HT11.out.grown hs9.grown hn2)
              clear u0 u1 u2 u3 u4 u5 u6 u7 u8 u9 u10 u11 u12 u13 u14 u15 u16 u17
              clear p0 p1 p2 p3 p4 p5 p6 p7 p8 p9 p10 p11 p12 p13 p14 p15 p16 p17
              clear a0 a1 b0 b1 hs9
              obtain ⟨a0, a1, b0, b1, _⟩ := HS12.out.at'
              obtain ⟨⟨p0, p1, p2, p9, p10, p11⟩, ⟨p3, p4, p5, p12, p13, p14⟩, ⟨p6, p7, p8, p15, p16, p17⟩⟩ := HT12.out
              simp only [Nat.zero_add, Nat.reduceAdd] at p1 p2 p4 p5 p7 p8 p10 p11 p13 p14 p16 p17
              dsimp only [zeroTr, zeroT] at *
              obtain ⟨⟨u0, u1, u2, u9, u10, u11⟩, ⟨u3, u4, u5, u12, u13, u14⟩, ⟨u6, u7, u8, u15, u16, u17⟩⟩ := HU12.out
              simp only [Nat.zero_add, Nat.reduceAdd] at u1 u2 u4 u5 u7 u8 u10 u11 u13 u14 u16 u17
              dsimp only [zeroTr, zeroT] at *
              generalize blanks q = l at *
              have zl := mkS_toList l
              cases l with
              | nil =>
                have HN1 : Hid (lineOf true s = some (some ⟨⟨ak, ax, ay⟩, ⟨bk, bx, bY⟩, ⟨ck, cx, cy⟩⟩)) := HN
                clear HN
                go_wp2
                refine bodyPost_ret (v := oneV (some (some ⟨⟨ak, ax, ay⟩, ⟨bk, bx, bY⟩, ⟨ck, cx, cy⟩⟩))) (by simp [results, Tryz.results11, go_sem, p0, p1, p2, p3, p4, p5, p6, p7, p8, oneV, tripleV, zeroTr, zeroT, mkS_nil]) rfl ?_
                rw [HN1.out]
                refine ⟨⟨rfl, fun t ht => by cases ht; exact ⟨FA.out, FB.out, FC.out⟩⟩, ?_⟩
                exact (bel_set (bel_set (bel_set (bel_set (bel_set (bel_set (bel_set (bel_set (bel_set (HS12.out.seen HB2.out (by omega)) (Nat.le_refl _) _) (Nat.le_refl _) _) (Nat.le_refl _) _) (Nat.le_refl _) _) (Nat.le_refl _) _) (Nat.le_refl _) _) (Nat.le_refl _) _) (Nat.le_refl _) _) (Nat.le_refl _) _)
              | cons b t =>
                have hE : (b :: t).isEmpty = false := rfl
                have hE' : ¬ (b :: t) = [] := by simp
                have hb : Hid (over (b :: t) = ([35] : List UInt8).isPrefixOf (b :: t)) := Lib.hid (by rw [over]; simp)
                generalize (b :: t : List UInt8) = L at *
                go_wp2_with fail
                refine (has_calls _ L [35] false (by decide) _ HS12.out.at').mono ?_
                rintro e w10 ⟨rfl, rfl⟩
                rw [hb.out] at HN
                clear hb
                cases hp : ([35] : List UInt8).isPrefixOf L with
                | true =>
                  have HN1 : Hid (lineOf true s = some (some ⟨⟨ak, ax, ay⟩, ⟨bk, bx, bY⟩, ⟨ck, cx, cy⟩⟩)) := Lib.hid (HN.out.trans (if_pos hp))
                  clear hp HN
                  go_wp2
                  refine bodyPost_ret (v := oneV (some (some ⟨⟨ak, ax, ay⟩, ⟨bk, bx, bY⟩, ⟨ck, cx, cy⟩⟩))) (by simp [results, Tryz.results11, go_sem, p0, p1, p2, p3, p4, p5, p6, p7, p8, oneV, tripleV, zeroTr, zeroT, mkS_nil]) rfl ?_
                  rw [HN1.out]
                  refine ⟨⟨rfl, fun t ht => by cases ht; exact ⟨FA.out, FB.out, FC.out⟩⟩, ?_⟩
                  exact (bel_set (bel_set (bel_set (bel_set (bel_set (bel_set (bel_set (bel_set (bel_set (HS12.out.seen HB2.out (by omega)) (Nat.le_refl _) _) (Nat.le_refl _) _) (Nat.le_refl _) _) (Nat.le_refl _) _) (Nat.le_refl _) _) (Nat.le_refl _) _) (Nat.le_refl _) _) (Nat.le_refl _) _) (Nat.le_refl _) _)
                | false =>
                  have HN1 : Hid (lineOf true s = none) := Lib.hid (HN.out.trans (if_neg (by rw [hp]; decide)))
                  clear hp HN
                  go_wp2
                  refine bodyPost_ret (v := oneV none) (by simp [results, Tryz.results11, go_sem, p0, p1, p2, p3, p4, p5, p6, p7, p8, oneV, tripleV, zeroTr, zeroT, mkS_nil]) rfl ?_
                  rw [HN1.out]
                  refine ⟨⟨rfl, fun t ht => by cases ht⟩, ?_⟩
                  exact (bel_set (bel_set (bel_set (bel_set (bel_set (bel_set (bel_set (bel_set (bel_set (HS12.out.seen HB2.out (by omega)) (Nat.le_refl _) _) (Nat.le_refl _) _) (Nat.le_refl _) _) (Nat.le_refl _) _) (Nat.le_refl _) _) (Nat.le_refl _) _) (Nat.le_refl _) _) (Nat.le_refl _) _) (Nat.le_refl _) _)
end Go.Proofs.YtmcoloapiiakbaaGreatDoor.Ref5
