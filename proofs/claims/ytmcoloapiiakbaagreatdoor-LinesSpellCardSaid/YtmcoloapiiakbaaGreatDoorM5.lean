/-
  Texts of the claim, one behind the other: PrgC, TriEq, Known, LOrder, SortW, SwapR, Rot, Ins, SymPure, SymL, SymR.
-/
import Derived.Test.YtmcoloapiiakbaaGreatDoorM4
import Derived.Laws.StructEq
import Derived.WalkKit
/-
  What lines.One answers.
-/
set_option linter.unusedVariables false
set_option linter.unusedSimpArgs false
namespace Go.Proofs.YtmcoloapiiakbaaGreatDoor.Prg
open Go.RowKit Go.Lib Go.Proofs.YtmcoloapiiakbaaGreatDoor.B Go.Proofs.YtmcoloapiiakbaaGreatDoor.Rd Go.Proofs.YtmcoloapiiakbaaGreatDoor.Utf Go.Proofs.YtmcoloapiiakbaaGreatDoor.TermPure Go.Proofs.YtmcoloapiiakbaaGreatDoor.LinesPure Go.Proofs.YtmcoloapiiakbaaGreatDoor.Tx Go.Proofs.YtmcoloapiiakbaaGreatDoor.Env Go.Proofs.YtmcoloapiiakbaaGreatDoor.Bld Go.Proofs.YtmcoloapiiakbaaGreatDoor.Tc
open Go.Proofs.YtmcoloapiiakbaaGreatDoor.Ref5 (termV Fits tripleV FitsT isTriple_eq two_zero zeroTr T9 oneV FitsO one_by lineEnd)

theorem T9.newA (w : World) (t : Triple) : T9 (w.alloc (.cells #[.int .i64 t.s.kind, .string (mkS t.s.text), .string (mkS t.s.extra), .int .i64 t.p.kind, .string (mkS t.p.text), .string (mkS t.p.extra), .int .i64 t.o.kind, .string (mkS t.o.text), .string (mkS t.o.extra)] 49)) w.heap.size t := by
  constructor <;> constructor
  all_goals first | (unfold World.cell?; dsimp only; rw [Kd.heap_new]; rfl) | (unfold World.frozen?; dsimp only; rw [Kd.heap_new]; rfl)
theorem T9.setS {W : World} {g : Nat} {a0 p0 o0 : Term} (h : T9 W g ⟨a0, p0, o0⟩) (a : Term) : T9 (((W.setCell ⟨g, 0, none⟩ (.int .i64 a.kind)).setCell ⟨g, 1, none⟩ (.string (mkS a.text))).setCell ⟨g, 2, none⟩ (.string (mkS a.extra))) g ⟨a, p0, o0⟩ :=
  ⟨h.s.set a, ((h.p.apart (by decide) (by decide) (by decide) _).apart (by decide) (by decide) (by decide) _).apart (by decide) (by decide) (by decide) _,
    ((h.o.apart (by decide) (by decide) (by decide) _).apart (by decide) (by decide) (by decide) _).apart (by decide) (by decide) (by decide) _⟩
theorem bel_seen {w0 w w' : World} {rb : Nat} (h : w.grownBy w' (some rb)) (hb : Below w0.heap.size w0 w) (hr : w0.heap.size ≤ rb) : Below w0.heap.size w0 w' :=
  ⟨h.os.trans hb.os, h.tape.trans hb.tape, h.output.trans hb.output, Nat.le_trans hb.size h.size, fun k hk => (h.block k (Nat.lt_of_lt_of_le hk hb.size) (by simp; omega)).trans (hb.block k hk)⟩
theorem end_no (t : Triple) (st : Option (List UInt8)) (h : ((dot st).map blanks).any over = false) : lineEnd t st = none := by
  cases st with
  | none => rfl
  | some r =>
    unfold lineEnd
    dsimp only
    apply if_neg
    rintro ⟨h1, h2, _⟩
    unfold dot at h
    dsimp only at h
    rw [if_pos h1] at h
    have h' : over (blanks (r.drop 1)) = false := h
    rw [h2] at h'
    cases h'
theorem end_yes (t : Triple) (st : Option (List UInt8)) (h : ((dot st).map blanks).any over = true) : st ≠ none ∧ lineEnd t st = if isTriple t = true then some (some t) else none := by
  cases st with
  | none => cases h
  | some r =>
    refine ⟨by simp, ?_⟩
    unfold dot at h
    dsimp only at h
    split at h
    · rename_i h1
      have h2 : over (blanks (r.drop 1)) = true := h
      unfold lineEnd
      dsimp only
      rw [h1, h2]
      simp
    · cases h
/-- So many terms have been read. -/
def Chain (st0 : Option (List UInt8)) (k : Nat) (a p o : Term) (st : Option (List UInt8)) : Prop :=
  (k = 0 ∧ st = st0) ∨ (k = 1 ∧ Ref5.Next false st0 a st ∧ (st ≠ none → FitsX a)) ∨
  (k = 2 ∧ ∃ s1, Ref5.Next false st0 a s1 ∧ Ref5.Next false s1 p st ∧ (st ≠ none → FitsX a ∧ FitsX p)) ∨
  (k = 3 ∧ ∃ s1 s2, Ref5.Next false st0 a s1 ∧ Ref5.Next false s1 p s2 ∧ Ref5.Next false s2 o st ∧ (st ≠ none → FitsX a ∧ FitsX p ∧ FitsX o))
theorem next_none {t : Term} {st st' : Option (List UInt8)} (h : Ref5.Next false st t st') (hn : st' ≠ none) : st ≠ none := by
  intro e
  subst e
  exact hn h
set_option maxRecDepth 100000 in
set_option maxHeartbeats 12800000 in
theorem one_calls (s : List UInt8) (hs : s.length ≤ 1000000) (w : World) (he : Env w) :
    Calls Tryz.prog 10 #[.string (mkS s)] w fun e w' => (e = .returned (oneV (lineOf false s)) ∧ FitsO (lineOf false s)) ∧ Below w.heap.size w w' := by
  have hlow := he.low
  have HB0 := Lib.hid (bel_alloc (Below.refl w.heap.size w) (.cells #[.int .i64 0, .string (mkS []), .string (mkS []), .int .i64 0, .string (mkS []), .string (mkS []), .int .i64 0, .string (mkS []), .string (mkS [])] 25))
  have HT0 := Lib.hid (T9.new w zeroTr)
  have HE0 := Lib.hid (he.below HB0.out)
  clear he
  go_enter Tryz.func10, Tryz.ntmps10
  go_wp2_with fail
  refine (valid_calls s (by omega) _ HE0.out).mono ?_
  rintro e w1 ⟨rfl, hb1⟩
  have HB1 := Lib.hid (bel_step HB0.out hb1)
  have HT1 := Lib.hid (HT0.out.below hb1)
  have HE1 := Lib.hid (HE0.out.below hb1)
  have hz1 : w.heap.size < w1.heap.size := HT1.out.s.lt
  have hrb : lowB ≤ w1.heap.size := by omega
  have hn2 : ¬ w.heap.size = w1.heap.size := by omega
  clear hb1
  obtain ⟨v, hv⟩ : ∃ v, validD s = v := ⟨_, rfl⟩
  have HV := Lib.hid hv
  rw [hv]
  clear hv
  have HB2 := Lib.hid (bel_alloc HB1.out (.cells #[.string (mkS s), .bool (!v)] 48))
  have HT2 := Lib.hid (HT1.out.alloc (.cells #[.string (mkS s), .bool (!v)] 48))
  have HE2 := Lib.hid (HE1.out.below (bel_alloc (Below.refl _ _) (.cells #[.string (mkS s), .bool (!v)] 48)))
  obtain ⟨st0, HSt0, HP0⟩ : ∃ st0 : Option (List UInt8), Hid (st0 = if v = true then some s else none) ∧ Hid (PSt (w1.alloc (.cells #[.string (mkS s), .bool (!v)] 48)) (w1.alloc (.cells #[.string (mkS s), .bool (!v)] 48)) w1.heap.size st0) := by
    have hA := Ref5.At.new w1 s (!v) 48 (by omega)
    cases v with
    | true => exact ⟨some s, Lib.hid rfl, Lib.hid ⟨Step.refl hA, HV.out, hs⟩⟩
    | false => exact ⟨none, Lib.hid rfl, Lib.hid ⟨s, Step.refl hA⟩⟩
  go_wp2_with fail
  refine (blanks_any_calls _ _ st0 _ HP0.out).mono ?_
  rintro e w2 ⟨rfl, hp2, hg2⟩
  have HP2 := Lib.hid hp2
  have HT3 := Lib.hid (HT2.out.grown hg2 hn2)
  have HE3 := Lib.hid (HE2.out.grown hg2 hrb)
  have hz2 : w1.heap.size < w2.heap.size := by have := hg2.size; simp at this; omega
  clear hp2 hg2
  go_wp2_with fail
  refine (over_any_calls _ _ (st0.map blanks) _ HP2.out).mono ?_
  rintro e w3 ⟨rfl, rfl⟩
  cases ho : (st0.map blanks).any over with
  | true =>
    have HO : Hid (lineOf false s = some none) := Lib.hid (by
      have h0 := HSt0.out
      cases v with
      | false => rw [h0] at ho; cases ho
      | true =>
        rw [h0] at ho
        have ho' : over (blanks s) = true := ho
        rw [lineOf, HV.out, ho']
        rfl)
    clear ho
    obtain ⟨⟨p0, p1, p2, p9, p10, p11⟩, ⟨p3, p4, p5, p12, p13, p14⟩, ⟨p6, p7, p8, p15, p16, p17⟩⟩ := HT3.out
    simp only [Nat.zero_add, Nat.reduceAdd] at p1 p2 p4 p5 p7 p8 p10 p11 p13 p14 p16 p17
    dsimp only [zeroTr, zeroT] at *
    go_wp2
    refine bodyPost_ret (v := oneV (some none)) (by simp [results, Tryz.results10, go_sem, p0, p1, p2, p3, p4, p5, p6, p7, p8, oneV, tripleV, zeroTr, zeroT, mkS_nil]) rfl ?_
    rw [HO.out]
    refine ⟨⟨rfl, fun t ht => by cases ht⟩, ?_⟩
    exact (bel_set (bel_set (bel_set (bel_set (bel_set (bel_set (bel_set (bel_set (bel_set (bel_seen HP2.out.grown HB2.out (by omega)) (Nat.le_refl _) _) (Nat.le_refl _) _) (Nat.le_refl _) _) (Nat.le_refl _) _) (Nat.le_refl _) _) (Nat.le_refl _) _) (Nat.le_refl _) _) (Nat.le_refl _) _) (Nat.le_refl _) _)
  | false =>
    have HO := Lib.hid ho
    clear ho
    have hn6 : ¬ w2.heap.size = w1.heap.size := by omega
    have hn7 : ¬ w2.heap.size = w.heap.size := by omega
    have hn8 : ¬ w.heap.size = w2.heap.size := by omega
    have HU0 := Lib.hid (T9.newA w2 zeroTr)
    have HT4 := Lib.hid (HT3.out.alloc (.cells #[.int .i64 0, .string (mkS []), .string (mkS []), .int .i64 0, .string (mkS []), .string (mkS []), .int .i64 0, .string (mkS []), .string (mkS [])] 49))
    have HP3 := Lib.hid (HP2.out.alloc (.cells #[.int .i64 0, .string (mkS []), .string (mkS []), .int .i64 0, .string (mkS []), .string (mkS []), .int .i64 0, .string (mkS []), .string (mkS [])] 49))
    have HE4 := Lib.hid (HE3.out.below (bel_alloc (Below.refl _ _) (.cells #[.int .i64 0, .string (mkS []), .string (mkS []), .int .i64 0, .string (mkS []), .string (mkS []), .int .i64 0, .string (mkS []), .string (mkS [])] 49)))
    go_wp2
    go_loopw [20] (fun vi wr => ∃ (k : Nat) (a p o : Term) (st : Option (List UInt8)), k ≤ 3 ∧ vi = .int .i64 k ∧ Hid (PSt (w1.alloc (.cells #[.string (mkS s), .bool (!v)] 48)) wr w1.heap.size st) ∧ Hid (T9 wr w2.heap.size ⟨a, p, o⟩) ∧ Hid (T9 wr w.heap.size zeroTr) ∧ Hid (Env wr) ∧ Hid (Chain (st0.map blanks) k a p o st)) (fun vi _ => 3 - (intOf vi).toNat)
    case atStart => exact ⟨0, zeroT, zeroT, zeroT, st0.map blanks, by omega, rfl, HP3, HU0, HT4, HE4, Lib.hid (.inl ⟨rfl, rfl⟩)⟩
    case round =>
      obtain ⟨k, ⟨ak, ax, ay⟩, ⟨bk, bx, bY⟩, ⟨ck, cx, cy⟩, st, hk3, rfl, HP, HU, HT, HE, HC⟩ := hrel
      have hzr : w2.heap.size < wr.heap.size := HU.out.s.lt
      have hk : k = 0 ∨ k = 1 ∨ k = 2 ∨ k = 3 := by omega
      clear hk3 HB0 HT0 HE0 HT1 HE1 HT2 HE2 HP0 HP2 HT3 HE3 HU0 HT4 HP3 HE4
      rcases hk with rfl | rfl | rfl | rfl
      · go_wp2_with fail
        refine (term_any_calls (w1.alloc (.cells #[.string (mkS s), .bool (!v)] 48)) _ st _ HE.out hrb HP.out).mono ?_
        rintro e w4 ⟨⟨tk, tx, te⟩, st', ⟨rfl, hf⟩, ⟨hps, hg⟩, hnx⟩
        unfold termV
        have HP1 := Lib.hid hps
        have HU1 := Lib.hid (HU.out.grown hg hn6)
        have HT5 := Lib.hid (HT.out.grown hg hn2)
        have HE5 := Lib.hid (HE.out.grown hg hrb)
        have HN := Lib.hid hnx.next
        have HF := Lib.hid hf
        have hz4 : w2.heap.size < w4.heap.size := HU1.out.s.lt
        clear hps hg hnx hf
        obtain ⟨⟨u0, u1, u2, u9, u10, u11⟩, ⟨u3, u4, u5, u12, u13, u14⟩, ⟨u6, u7, u8, u15, u16, u17⟩⟩ := HU1.out
        simp only [Nat.zero_add, Nat.reduceAdd] at u1 u2 u4 u5 u7 u8 u10 u11 u13 u14 u16 u17
        dsimp only [zeroTr, zeroT] at *
        have HP6 := Lib.hid ((((HP1.out.other (g := w2.heap.size) (j := 0) (by simp; omega) hn6 (.int .i64 tk)).other (g := w2.heap.size) (j := 1) (by simp; omega) hn6 (.string (mkS tx))).other (g := w2.heap.size) (j := 2) (by simp; omega) hn6 (.string (mkS te))))
        have HT6 := Lib.hid ((((HT5.out.other (g' := w2.heap.size) (j := 0) hn8 (.int .i64 tk)).other (g' := w2.heap.size) (j := 1) hn8 (.string (mkS tx))).other (g' := w2.heap.size) (j := 2) hn8 (.string (mkS te))))
        have HU6 := Lib.hid (T9.setS HU1.out ⟨tk, tx, te⟩)
        have HE6 := Lib.hid ((((HE5.out.set (g := w2.heap.size) (j := 0) (by omega) (.int .i64 tk)).set (g := w2.heap.size) (j := 1) (by omega) (.string (mkS tx))).set (g := w2.heap.size) (j := 2) (by omega) (.string (mkS te))))
        go_wp2_with fail
        refine (blanks_any_calls (w1.alloc (.cells #[.string (mkS s), .bool (!v)] 48)) _ st' _ HP6.out).mono ?_
        rintro e w5 ⟨rfl, hps, hg⟩
        have HP7 := Lib.hid hps
        have HU7 := Lib.hid (HU6.out.grown hg hn6)
        have HT7 := Lib.hid (HT6.out.grown hg hn2)
        have HE7 := Lib.hid (HE6.out.grown hg hrb)
        have HC7 : Hid (Chain (st0.map blanks) 1 ⟨tk, tx, te⟩ ⟨bk, bx, bY⟩ ⟨ck, cx, cy⟩ (st'.map blanks)) := Lib.hid (by
          rcases HC.out with ⟨_, hst⟩ | ⟨h, _⟩ | ⟨h, _⟩ | ⟨h, _⟩
          · subst hst; exact .inr (.inl ⟨rfl, HN.out, fun h => HF.out (fun e => h (by rw [e]; rfl))⟩)
          · omega
          · omega
          · omega)
        clear u0 u1 u2 u3 u4 u5 u6 u7 u8 u9 u10 u11 u12 u13 u14 u15 u16 u17
        clear hps hg
        go_wp2
        go_roundw
        case rel => exact ⟨1, ⟨tk, tx, te⟩, ⟨bk, bx, bY⟩, ⟨ck, cx, cy⟩, st'.map blanks, by omega, by go_num, HP7, HU7, HT7, HE7, HC7⟩
        case measure => simp [intOf]
      · go_wp2_with fail
        refine (term_any_calls (w1.alloc (.cells #[.string (mkS s), .bool (!v)] 48)) _ st _ HE.out hrb HP.out).mono ?_
        rintro e w4 ⟨⟨tk, tx, te⟩, st', ⟨rfl, hf⟩, ⟨hps, hg⟩, hnx⟩
        unfold termV
        have HP1 := Lib.hid hps
        have HU1 := Lib.hid (HU.out.grown hg hn6)
        have HT5 := Lib.hid (HT.out.grown hg hn2)
        have HE5 := Lib.hid (HE.out.grown hg hrb)
        have HN := Lib.hid hnx.next
        have HF := Lib.hid hf
        have hz4 : w2.heap.size < w4.heap.size := HU1.out.s.lt
        clear hps hg hnx hf
        obtain ⟨⟨u0, u1, u2, u9, u10, u11⟩, ⟨u3, u4, u5, u12, u13, u14⟩, ⟨u6, u7, u8, u15, u16, u17⟩⟩ := HU1.out
        simp only [Nat.zero_add, Nat.reduceAdd] at u1 u2 u4 u5 u7 u8 u10 u11 u13 u14 u16 u17
        dsimp only [zeroTr, zeroT] at *
        have HP6 := Lib.hid ((((HP1.out.other (g := w2.heap.size) (j := 3) (by simp; omega) hn6 (.int .i64 tk)).other (g := w2.heap.size) (j := 4) (by simp; omega) hn6 (.string (mkS tx))).other (g := w2.heap.size) (j := 5) (by simp; omega) hn6 (.string (mkS te))))
        have HT6 := Lib.hid ((((HT5.out.other (g' := w2.heap.size) (j := 3) hn8 (.int .i64 tk)).other (g' := w2.heap.size) (j := 4) hn8 (.string (mkS tx))).other (g' := w2.heap.size) (j := 5) hn8 (.string (mkS te))))
        have HU6 := Lib.hid (HU1.out.setP ⟨tk, tx, te⟩)
        have HE6 := Lib.hid ((((HE5.out.set (g := w2.heap.size) (j := 3) (by omega) (.int .i64 tk)).set (g := w2.heap.size) (j := 4) (by omega) (.string (mkS tx))).set (g := w2.heap.size) (j := 5) (by omega) (.string (mkS te))))
        go_wp2_with fail
        refine (blanks_any_calls (w1.alloc (.cells #[.string (mkS s), .bool (!v)] 48)) _ st' _ HP6.out).mono ?_
        rintro e w5 ⟨rfl, hps, hg⟩
        have HP7 := Lib.hid hps
        have HU7 := Lib.hid (HU6.out.grown hg hn6)
        have HT7 := Lib.hid (HT6.out.grown hg hn2)
        have HE7 := Lib.hid (HE6.out.grown hg hrb)
        have HC7 : Hid (Chain (st0.map blanks) 2 ⟨ak, ax, ay⟩ ⟨tk, tx, te⟩ ⟨ck, cx, cy⟩ (st'.map blanks)) := Lib.hid (by
          rcases HC.out with ⟨h, _⟩ | ⟨_, n1, f1⟩ | ⟨h, _⟩ | ⟨h, _⟩
          · omega
          · exact .inr (.inr (.inl ⟨rfl, st, n1, HN.out, fun h => ⟨f1 (next_none HN.out h), HF.out (fun e => h (by rw [e]; rfl))⟩⟩))
          · omega
          · omega)
        clear u0 u1 u2 u3 u4 u5 u6 u7 u8 u9 u10 u11 u12 u13 u14 u15 u16 u17
        clear hps hg
        go_wp2
        go_roundw
        case rel => exact ⟨2, ⟨ak, ax, ay⟩, ⟨tk, tx, te⟩, ⟨ck, cx, cy⟩, st'.map blanks, by omega, by go_num, HP7, HU7, HT7, HE7, HC7⟩
        case measure => simp [intOf]
      · go_wp2_with fail
        refine (term_any_calls (w1.alloc (.cells #[.string (mkS s), .bool (!v)] 48)) _ st _ HE.out hrb HP.out).mono ?_
        rintro e w4 ⟨⟨tk, tx, te⟩, st', ⟨rfl, hf⟩, ⟨hps, hg⟩, hnx⟩
        unfold termV
        have HP1 := Lib.hid hps
        have HU1 := Lib.hid (HU.out.grown hg hn6)
        have HT5 := Lib.hid (HT.out.grown hg hn2)
        have HE5 := Lib.hid (HE.out.grown hg hrb)
        have HN := Lib.hid hnx.next
        have HF := Lib.hid hf
        have hz4 : w2.heap.size < w4.heap.size := HU1.out.s.lt
        clear hps hg hnx hf
        obtain ⟨⟨u0, u1, u2, u9, u10, u11⟩, ⟨u3, u4, u5, u12, u13, u14⟩, ⟨u6, u7, u8, u15, u16, u17⟩⟩ := HU1.out
        simp only [Nat.zero_add, Nat.reduceAdd] at u1 u2 u4 u5 u7 u8 u10 u11 u13 u14 u16 u17
        dsimp only [zeroTr, zeroT] at *
        have HP6 := Lib.hid ((((HP1.out.other (g := w2.heap.size) (j := 6) (by simp; omega) hn6 (.int .i64 tk)).other (g := w2.heap.size) (j := 7) (by simp; omega) hn6 (.string (mkS tx))).other (g := w2.heap.size) (j := 8) (by simp; omega) hn6 (.string (mkS te))))
        have HT6 := Lib.hid ((((HT5.out.other (g' := w2.heap.size) (j := 6) hn8 (.int .i64 tk)).other (g' := w2.heap.size) (j := 7) hn8 (.string (mkS tx))).other (g' := w2.heap.size) (j := 8) hn8 (.string (mkS te))))
        have HU6 := Lib.hid (HU1.out.setO ⟨tk, tx, te⟩)
        have HE6 := Lib.hid ((((HE5.out.set (g := w2.heap.size) (j := 6) (by omega) (.int .i64 tk)).set (g := w2.heap.size) (j := 7) (by omega) (.string (mkS tx))).set (g := w2.heap.size) (j := 8) (by omega) (.string (mkS te))))
        go_wp2_with fail
        refine (blanks_any_calls (w1.alloc (.cells #[.string (mkS s), .bool (!v)] 48)) _ st' _ HP6.out).mono ?_
        rintro e w5 ⟨rfl, hps, hg⟩
        have HP7 := Lib.hid hps
        have HU7 := Lib.hid (HU6.out.grown hg hn6)
        have HT7 := Lib.hid (HT6.out.grown hg hn2)
        have HE7 := Lib.hid (HE6.out.grown hg hrb)
        have HC7 : Hid (Chain (st0.map blanks) 3 ⟨ak, ax, ay⟩ ⟨bk, bx, bY⟩ ⟨tk, tx, te⟩ (st'.map blanks)) := Lib.hid (by
          rcases HC.out with ⟨h, _⟩ | ⟨h, _⟩ | ⟨_, s1, n1, n2, f2⟩ | ⟨h, _⟩
          · omega
          · omega
          · exact .inr (.inr (.inr ⟨rfl, s1, st, n1, n2, HN.out, fun h => ⟨(f2 (next_none HN.out h)).1, (f2 (next_none HN.out h)).2, HF.out (fun e => h (by rw [e]; rfl))⟩⟩))
          · omega)
        clear u0 u1 u2 u3 u4 u5 u6 u7 u8 u9 u10 u11 u12 u13 u14 u15 u16 u17
        clear hps hg
        go_wp2
        go_roundw
        case rel => exact ⟨3, ⟨ak, ax, ay⟩, ⟨bk, bx, bY⟩, ⟨tk, tx, te⟩, st'.map blanks, by omega, by go_num, HP7, HU7, HT7, HE7, HC7⟩
        case measure => simp [intOf]
      · obtain ⟨s1, s2, n1, n2, n3, ff⟩ : ∃ s1 s2, Ref5.Next false (st0.map blanks) ⟨ak, ax, ay⟩ s1 ∧ Ref5.Next false s1 ⟨bk, bx, bY⟩ s2 ∧ Ref5.Next false s2 ⟨ck, cx, cy⟩ st ∧ (st ≠ none → FitsX ⟨ak, ax, ay⟩ ∧ FitsX ⟨bk, bx, bY⟩ ∧ FitsX ⟨ck, cx, cy⟩) := by
          rcases HC.out with ⟨h, _⟩ | ⟨h, _⟩ | ⟨h, _⟩ | ⟨_, s1, s2, n1, n2, n3, ff⟩
          · omega
          · omega
          · omega
          · exact ⟨s1, s2, n1, n2, n3, ff⟩
        have HLn : Hid (lineOf false s = lineEnd ⟨⟨ak, ax, ay⟩, ⟨bk, bx, bY⟩, ⟨ck, cx, cy⟩⟩ st) := Lib.hid (by
          have h0 := HSt0.out
          cases v with
          | true =>
            rw [h0] at n1
            have ho' : over (blanks s) = false := by have := HO.out; rw [h0] at this; exact this
            exact one_by false s HV.out ho' n1 n2 n3
          | false =>
            rw [h0] at n1
            have : s1 = none := n1
            subst this
            have : s2 = none := n2
            subst this
            have : st = none := n3
            subst this
            rw [lineOf, if_pos HV.out]
            rfl)
        have HFF := Lib.hid ff
        clear n1 n2 n3 ff HC
        go_wp2_with fail
        refine (dot_any_calls (w1.alloc (.cells #[.string (mkS s), .bool (!v)] 48)) _ st _ HP.out).mono ?_
        rintro e w4 ⟨rfl, hps, hg⟩
        have HP1 := Lib.hid hps
        have HU1 := Lib.hid (HU.out.grown hg hn6)
        have HT5 := Lib.hid (HT.out.grown hg hn2)
        have HE5 := Lib.hid (HE.out.grown hg hrb)
        clear hps hg
        go_wp2_with fail
        refine (blanks_any_calls (w1.alloc (.cells #[.string (mkS s), .bool (!v)] 48)) _ (dot st) _ HP1.out).mono ?_
        rintro e w5 ⟨rfl, hps, hg⟩
        have HP7 := Lib.hid hps
        have HU7 := Lib.hid (HU1.out.grown hg hn6)
        have HT7 := Lib.hid (HT5.out.grown hg hn2)
        have HE7 := Lib.hid (HE5.out.grown hg hrb)
        have hz5 : w2.heap.size < w5.heap.size := HU7.out.s.lt
        clear hps hg
        obtain ⟨⟨u0, u1, u2, u9, u10, u11⟩, ⟨u3, u4, u5, u12, u13, u14⟩, ⟨u6, u7, u8, u15, u16, u17⟩⟩ := HU7.out
        simp only [Nat.zero_add, Nat.reduceAdd] at u1 u2 u4 u5 u7 u8 u10 u11 u13 u14 u16 u17
        dsimp only [zeroTr, zeroT] at *
        have HP8 := Lib.hid (HP7.out.alloc (.cells #[.int .i64 ak, .string (mkS ax), .string (mkS ay), .int .i64 bk, .string (mkS bx), .string (mkS bY), .int .i64 ck, .string (mkS cx), .string (mkS cy)] 25))
        have HT8 := Lib.hid (HT7.out.alloc (.cells #[.int .i64 ak, .string (mkS ax), .string (mkS ay), .int .i64 bk, .string (mkS bx), .string (mkS bY), .int .i64 ck, .string (mkS cx), .string (mkS cy)] 25))
        have HE8 := Lib.hid (HE7.out.below (bel_alloc (Below.refl _ _) (.cells #[.int .i64 ak, .string (mkS ax), .string (mkS ay), .int .i64 bk, .string (mkS bx), .string (mkS bY), .int .i64 ck, .string (mkS cx), .string (mkS cy)] 25)))
        have HV8 := Lib.hid (T9.new w5 ⟨⟨ak, ax, ay⟩, ⟨bk, bx, bY⟩, ⟨ck, cx, cy⟩⟩)
        have hm1 : ¬ w5.heap.size = w.heap.size := by omega
        have hm2 : ¬ w.heap.size = w5.heap.size := by omega
        have hzw5 : w.heap.size < w5.heap.size := by omega
        go_wp2_with fail
        refine (over_any_calls (w1.alloc (.cells #[.string (mkS s), .bool (!v)] 48)) _ ((dot st).map blanks) _ HP8.out).mono ?_
        rintro e w6 ⟨rfl, rfl⟩
        clear u0 u1 u2 u3 u4 u5 u6 u7 u8 u9 u10 u11 u12 u13 u14 u15 u16 u17
        cases hd : ((dot st).map blanks).any over with
        | false =>
          have HN1 := Lib.hid (HLn.out.trans (end_no _ st hd))
          clear hd
          obtain ⟨⟨p0, p1, p2, p9, p10, p11⟩, ⟨p3, p4, p5, p12, p13, p14⟩, ⟨p6, p7, p8, p15, p16, p17⟩⟩ := HT7.out
          simp only [Nat.zero_add, Nat.reduceAdd] at p1 p2 p4 p5 p7 p8 p10 p11 p13 p14 p16 p17
          dsimp only [zeroTr, zeroT] at *
          go_wp2
          refine bodyPost_ret (v := oneV none) (by simp [results, Tryz.results10, go_sem, hm1, hm2, hzw5, p0, p1, p2, p3, p4, p5, p6, p7, p8, oneV, tripleV, zeroTr, zeroT, mkS_nil]) rfl ?_
          rw [HN1.out]
          refine ⟨⟨rfl, fun t ht => by cases ht⟩, ?_⟩
          clear p0 p1 p2 p3 p4 p5 p6 p7 p8 p9 p10 p11 p12 p13 p14 p15 p16 p17
          exact bel_alloc (bel_set (bel_set (bel_set (bel_set (bel_set (bel_set (bel_set (bel_set (bel_set (bel_seen HP7.out.grown HB2.out (by omega)) (Nat.le_refl _) _) (Nat.le_refl _) _) (Nat.le_refl _) _) (Nat.le_refl _) _) (Nat.le_refl _) _) (Nat.le_refl _) _) (Nat.le_refl _) _) (Nat.le_refl _) _) (Nat.le_refl _) _) _
        | true =>
          obtain ⟨hne, hle⟩ := end_yes ⟨⟨ak, ax, ay⟩, ⟨bk, bx, bY⟩, ⟨ck, cx, cy⟩⟩ st hd
          have HN0 := Lib.hid (HLn.out.trans hle)
          have hfx := HFF.out hne
          have hfit : FitsT ⟨⟨ak, ax, ay⟩, ⟨bk, bx, bY⟩, ⟨ck, cx, cy⟩⟩ := ⟨hfx.1.1, hfx.2.1.1, hfx.2.2.1⟩
          have HFt := Lib.hid hfit
          have HIs := Lib.hid (pist_calls ⟨⟨ak, ax, ay⟩, ⟨bk, bx, bY⟩, ⟨ck, cx, cy⟩⟩ hfit ⟨by have := hfx.1.2; dsimp only at this ⊢; omega, by have := hfx.2.1.2; dsimp only at this ⊢; omega, by have := hfx.2.2.2; dsimp only at this ⊢; omega⟩)
          clear hd hne hle hfit hfx
          go_wp2_with fail
          refine (HIs.out _ HE8.out).mono ?_
          rintro e w6 ⟨rfl, hb6⟩
          have HP9 : Hid ((w1.alloc (.cells #[.string (mkS s), .bool (!v)] 48)).grownBy w6 (some w1.heap.size)) := Lib.hid (HP8.out.grown.trans ⟨hb6.os, hb6.tape, hb6.output, hb6.size, fun k hk _ => hb6.block k hk⟩)
          have HT9 := Lib.hid (HT8.out.below hb6)
          have HV9 := Lib.hid (HV8.out.below hb6)
          have hz6 : w5.heap.size < w6.heap.size := HV9.out.s.lt
          clear hb6
          obtain ⟨⟨p0, p1, p2, p9, p10, p11⟩, ⟨p3, p4, p5, p12, p13, p14⟩, ⟨p6, p7, p8, p15, p16, p17⟩⟩ := HT9.out
          simp only [Nat.zero_add, Nat.reduceAdd] at p1 p2 p4 p5 p7 p8 p10 p11 p13 p14 p16 p17
          dsimp only [zeroTr, zeroT] at *
          obtain ⟨⟨u0, u1, u2, u9, u10, u11⟩, ⟨u3, u4, u5, u12, u13, u14⟩, ⟨u6, u7, u8, u15, u16, u17⟩⟩ := HV9.out
          simp only [Nat.zero_add, Nat.reduceAdd] at u1 u2 u4 u5 u7 u8 u10 u11 u13 u14 u16 u17
          dsimp only [zeroTr, zeroT] at *
          cases hi : isTriple ⟨⟨ak, ax, ay⟩, ⟨bk, bx, bY⟩, ⟨ck, cx, cy⟩⟩ with
          | false =>
            have HN1 : Hid (lineOf false s = none) := Lib.hid (HN0.out.trans (if_neg (by rw [hi]; decide)))
            clear hi HN0
            go_wp2
            refine bodyPost_ret (v := oneV none) (by simp [results, Tryz.results10, go_sem, hm1, hm2, p0, p1, p2, p3, p4, p5, p6, p7, p8, oneV, tripleV, zeroTr, zeroT, mkS_nil]) rfl ?_
            rw [HN1.out]
            refine ⟨⟨rfl, fun t ht => by cases ht⟩, ?_⟩
            clear p0 p1 p2 p3 p4 p5 p6 p7 p8 p9 p10 p11 p12 p13 p14 p15 p16 p17
            clear u0 u1 u2 u3 u4 u5 u6 u7 u8 u9 u10 u11 u12 u13 u14 u15 u16 u17
            exact (bel_set (bel_set (bel_set (bel_set (bel_set (bel_set (bel_set (bel_set (bel_set (bel_seen HP9.out HB2.out (by omega)) (Nat.le_refl _) _) (Nat.le_refl _) _) (Nat.le_refl _) _) (Nat.le_refl _) _) (Nat.le_refl _) _) (Nat.le_refl _) _) (Nat.le_refl _) _) (Nat.le_refl _) _) (Nat.le_refl _) _)
          | true =>
            have HN1 : Hid (lineOf false s = some (some ⟨⟨ak, ax, ay⟩, ⟨bk, bx, bY⟩, ⟨ck, cx, cy⟩⟩)) := Lib.hid (HN0.out.trans (if_pos hi))
            clear hi HN0
            go_wp2
            refine bodyPost_ret (v := oneV (some (some ⟨⟨ak, ax, ay⟩, ⟨bk, bx, bY⟩, ⟨ck, cx, cy⟩⟩))) (by simp [results, Tryz.results10, go_sem, hm1, hm2, p0, p1, p2, p3, p4, p5, p6, p7, p8, oneV, tripleV, zeroTr, zeroT, mkS_nil]) rfl ?_
            rw [HN1.out]
            refine ⟨⟨rfl, fun t ht => by cases ht; exact HFt.out⟩, ?_⟩
            clear p0 p1 p2 p3 p4 p5 p6 p7 p8 p9 p10 p11 p12 p13 p14 p15 p16 p17
            clear u0 u1 u2 u3 u4 u5 u6 u7 u8 u9 u10 u11 u12 u13 u14 u15 u16 u17
            exact (bel_set (bel_set (bel_set (bel_set (bel_set (bel_set (bel_set (bel_set (bel_set (bel_seen HP9.out HB2.out (by omega)) (Nat.le_refl _) _) (Nat.le_refl _) _) (Nat.le_refl _) _) (Nat.le_refl _) _) (Nat.le_refl _) _) (Nat.le_refl _) _) (Nat.le_refl _) _) (Nat.le_refl _) _) (Nat.le_refl _) _)
end Go.Proofs.YtmcoloapiiakbaaGreatDoor.Prg
/-
  '==' on terms and triples.
-/
set_option linter.unusedVariables false
set_option linter.unusedSimpArgs false
namespace Go.Proofs.YtmcoloapiiakbaaGreatDoor.TriEq
open Go.RowKit Go.Proofs.YtmcoloapiiakbaaGreatDoor.B Go.Proofs.YtmcoloapiiakbaaGreatDoor.Rd Go.Proofs.YtmcoloapiiakbaaGreatDoor.TermPure Go.Proofs.YtmcoloapiiakbaaGreatDoor.LinesPure Go.Proofs.YtmcoloapiiakbaaGreatDoor.Ref5

theorem str_beq (a b : List UInt8) : ((mkS a).toList == (mkS b).toList) = decide (a = b) := by
  rw [mkS_toList, mkS_toList]
  by_cases h : a = b <;> simp [h]
theorem eq_term (x y : Term) (d : Nat) (w : World) : (Op.equalIn (d + 2) 23 (termV x) (termV y)).run Tryz.prog w = .ok (decide (x = y)) w := by
  have hS : Tryz.prog.underlying 23 = some (.struct (Tryz.prog.fieldsOf 23)) := by kernel_rfl
  have hp : Tryz.prog.stoodInHeld 23 = false := by kernel_rfl
  have u3 := Tryz.underlying3
  have u9 := Tryz.underlying9
  have a3 := Tryz.isAgg3
  have z3 := Tryz.sizeOf3
  have a9 := Tryz.isAgg9
  have z9 := Tryz.sizeOf9
  obtain ⟨xk, xt, xe⟩ := x
  obtain ⟨yk, yt, ye⟩ := y
  unfold termV
  rw [run_equalIn_struct w (d + 1) 23 _ _ hS hp]
  simp only [Program.fieldsOf, Tryz.underlying23]
  go_simp
  simp only [mkS_toList]
  by_cases h1 : xk = yk <;> by_cases h2 : xt = yt <;> by_cases h3 : xe = ye <;> simp [h1, h2, h3]
theorem eq_term' (x y : Term) (d : Nat) (w : World) : (Op.equalIn (d + 2) 23 (.agg #[.int .i64 x.kind, .string (mkS x.text), .string (mkS x.extra)]) (.agg #[.int .i64 y.kind, .string (mkS y.text), .string (mkS y.extra)])).run Tryz.prog w = .ok (decide (x = y)) w := eq_term x y d w
theorem run_eq_term (x y : Term) (w : World) : (binOp .eql 23 (.agg #[.int .i64 x.kind, .string (mkS x.text), .string (mkS x.extra)]) (.agg #[.int .i64 y.kind, .string (mkS y.text), .string (mkS y.extra)])).run Tryz.prog w = .ok (.bool (decide (x = y))) w := by
  rw [run_eql_struct, show (10000 : Nat) = 9998 + 2 from rfl, eq_term']
  rfl
theorem run_eq_tri (x y : Triple) (w : World) : (binOp .eql 25 (tripleV x) (tripleV y)).run Tryz.prog w = .ok (.bool (decide (x = y))) w := by
  have hS : Tryz.prog.underlying 25 = some (.struct (Tryz.prog.fieldsOf 25)) := by kernel_rfl
  have hp : Tryz.prog.stoodInHeld 25 = false := by kernel_rfl
  have a23 := Tryz.isAgg23
  have z23 := Tryz.sizeOf23
  have e := fun (x y : Term) w => eq_term' x y 9997 w
  unfold tripleV
  rw [run_eql_struct, show (10000 : Nat) = 9999 + 1 from rfl, run_equalIn_agg w 9999 25 _ _ hS hp]
  simp only [Program.fieldsOf, Tryz.underlying25]
  go_simp
  obtain ⟨a, b, c⟩ := x
  obtain ⟨a', b', c'⟩ := y
  by_cases h1 : a = a' <;> by_cases h2 : b = b' <;> by_cases h3 : c = c' <;> simp [h1, h2, h3]
end Go.Proofs.YtmcoloapiiakbaaGreatDoor.TriEq
/-
  What triviumlaw5.known answers: true.
-/
set_option linter.unusedVariables false
set_option linter.unusedSimpArgs false
namespace Go.Proofs.YtmcoloapiiakbaaGreatDoor.Known
open Go.RowKit Go.Lib Go.Proofs.YtmcoloapiiakbaaGreatDoor.B Go.Proofs.YtmcoloapiiakbaaGreatDoor.Rd Go.Proofs.YtmcoloapiiakbaaGreatDoor.Utf Go.Proofs.YtmcoloapiiakbaaGreatDoor.TermPure Go.Proofs.YtmcoloapiiakbaaGreatDoor.LinesPure Go.Proofs.YtmcoloapiiakbaaGreatDoor.Tx Go.Proofs.YtmcoloapiiakbaaGreatDoor.Env Go.Proofs.YtmcoloapiiakbaaGreatDoor.Tri Go.Proofs.YtmcoloapiiakbaaGreatDoor.Ref5

def T0 : Triple := ⟨⟨1, [97], []⟩, ⟨1, [98], []⟩, ⟨3, [99], []⟩⟩
theorem line0 : lineOf false [60, 97, 62, 60, 98, 62, 34, 99, 34, 46] = some (some T0) := by decide +kernel
theorem print0 : [T0].flatMap Print.lineN = [60, 97, 62, 32, 60, 98, 62, 32, 34, 99, 34, 32, 46, 10] := by decide +kernel
/-- A row of one triple, just laid. -/
theorem one_row (w : World) (t : Triple) (ht : FitsW3 t) : triK.sl.M (w.alloc (.cells (triL t).toArray 25)) (fun k => k < (w.alloc (.cells (triL t).toArray 25)).heap.size) [t] [.slice (some ⟨w.heap.size, 0, none⟩) 1 1] := by
  refine ⟨some ⟨w.heap.size, 0, none⟩, 1, rfl, Nat.le_refl _, ⟨by simp, by unfold maxLen; omega⟩, fun h => (by cases h), fun i x hx => ?_⟩
  cases i with
  | zero =>
    simp at hx
    subst hx
    refine ⟨_, triL t, rfl, by simp, ⟨rfl, ht⟩, fun j u hu => ?_⟩
    rw [Nat.zero_mul, Nat.zero_add, add_plain, World.cell?, Kd.heap_new]
    simpa using hu
  | succ i => simp at hx
set_option maxHeartbeats 1600000 in
set_option maxRecDepth 100000 in
theorem known_calls (w : World) (he : Env w) : Calls Tryz.prog 12 #[] w fun e w' => e = .returned (.bool true) ∧ Below w.heap.size w w' := by
  have HA := Lib.hid (Prg.one_calls [60, 97, 62, 60, 98, 62, 34, 99, 34, 46] (by decide) w he)
  rw [line0] at HA
  have HP := Lib.hid (fun w => Print.print_calls [T0] (some ⟨w.heap.size, 0, none⟩) 1 (w.alloc (.cells (triL T0).toArray 25)) (one_row w T0 (by unfold FitsW3 FitsW; decide)) (by intro t ht; simp at ht; subst ht; unfold Print.SmallT; decide) (by rw [print0]; decide))
  rw [print0] at HP
  clear he
  go_enter Tryz.func12, Tryz.ntmps12
  go_wp2_with fail
  refine HA.out.mono ?_
  rintro e w1 ⟨⟨rfl, _⟩, hb⟩
  have HB := Lib.hid (bel_alloc (bel_alloc hb (.cells (triL T0).toArray 25)) (.cells (triL T0).toArray 25))
  clear hb
  unfold oneV tripleV T0
  dsimp only
  have m1 := mkS_toList [99]
  have m2 : (⟨#[99]⟩ : ByteArray).toList = [99] := mkS_toList [99]
  have m3 := mkS_toList []
  have m4 : (⟨#[]⟩ : ByteArray).toList = [] := mkS_toList []
  have m5 := mkS_toList [98]
  have m6 : (⟨#[98]⟩ : ByteArray).toList = [98] := mkS_toList [98]
  have m7 := mkS_toList [60, 97, 62, 32, 60, 98, 62, 32, 34, 99, 34, 32, 46, 10]
  have m8 : (⟨#[60, 97, 62, 32, 60, 98, 62, 32, 34, 99, 34, 32, 46, 10]⟩ : ByteArray).toList = [60, 97, 62, 32, 60, 98, 62, 32, 34, 99, 34, 32, 46, 10] := mkS_toList [60, 97, 62, 32, 60, 98, 62, 32, 34, 99, 34, 32, 46, 10]
  go_wp2_with fail
  · have HP1 := HP.out (w1.alloc (.cells (triL T0).toArray 25))
    rw [show (w1.alloc (.cells (triL T0).toArray 25)).heap.size = w1.heap.size + 1 by simp] at HP1
    refine HP1.mono ?_
    rintro e w2 ⟨rfl, hb2⟩
    have HB2 := Lib.hid (bel_step HB.out hb2)
    clear hb2 HP1
    go_wp2
    go_ret
    exact ⟨rfl, HB2.out⟩
end Go.Proofs.YtmcoloapiiakbaaGreatDoor.Known
/-
  The law LinesOrder, walked.
-/
set_option linter.unusedVariables false
set_option linter.unusedSimpArgs false
namespace Go.Proofs.YtmcoloapiiakbaaGreatDoor.LOrder
open Go.RowKit Go.Lib Go.Proofs.YtmcoloapiiakbaaGreatDoor.B Go.Proofs.YtmcoloapiiakbaaGreatDoor.Rd Go.Proofs.YtmcoloapiiakbaaGreatDoor.Utf Go.Proofs.YtmcoloapiiakbaaGreatDoor.TermPure Go.Proofs.YtmcoloapiiakbaaGreatDoor.LinesPure Go.Proofs.YtmcoloapiiakbaaGreatDoor.Tx Go.Proofs.YtmcoloapiiakbaaGreatDoor.Env Go.Proofs.YtmcoloapiiakbaaGreatDoor.Tri Go.Proofs.YtmcoloapiiakbaaGreatDoor.SortP Go.Proofs.YtmcoloapiiakbaaGreatDoor.Print Go.Proofs.YtmcoloapiiakbaaGreatDoor.Cmp Go.Proofs.YtmcoloapiiakbaaGreatDoor.Long

/-- A row just laid. -/
theorem rows_new (w : World) (l : List Triple) (hl : l.length ≤ 140737488355328) (hf : ∀ t ∈ l, FitsW3 t) :
    triK.sl.M (w.alloc (.cells (l.flatMap triL).toArray 25)) (fun k => k < (w.alloc (.cells (l.flatMap triL).toArray 25)).heap.size) l [.slice (some ⟨w.heap.size, 0, none⟩) l.length l.length] := by
  refine ⟨some ⟨w.heap.size, 0, none⟩, l.length, rfl, Nat.le_refl _, ⟨hl, by unfold maxLen; omega⟩, fun h => (by cases h), fun i x hx => ?_⟩
  have hi := (List.getElem?_eq_some_iff.1 hx).1
  refine ⟨_, triL x, rfl, by simp, ⟨rfl, hf x (List.mem_of_getElem? hx)⟩, fun j u hu => ?_⟩
  have hj : j < 9 := by
    have := (List.getElem?_eq_some_iff.1 hu).1
    exact this
  rw [add_plain, World.cell?, Kd.heap_new]
  show (if (none : Option _).isSome = true then none else (l.flatMap triL).toArray[i * 9 + j]?) = some u
  have key : ∀ (l : List Triple) (i : Nat) (x : Triple), l[i]? = some x → (l.flatMap triL)[i * 9 + j]? = (triL x)[j]? := by
    intro l
    induction l with
    | nil => intro i x h; simp at h
    | cons y l ih =>
      intro i x h
      rw [List.flatMap_cons]
      cases i with
      | zero =>
        simp at h
        subst h
        rw [Nat.zero_mul, Nat.zero_add, List.getElem?_append_left (by exact hj)]
      | succ i =>
        simp at h
        rw [List.getElem?_append_right (by show 9 ≤ _; omega), ← ih i x h]
        congr 1
        show (i + 1) * 9 + j - 9 = _
        omega
  rw [if_neg (by simp), List.getElem?_toArray, key l i x hx]
  exact hu
theorem box27 (w : World) (a b c : Triple) : C9 (((w.alloc (.cells (triL a).toArray 25)).alloc (.cells (triL b).toArray 25)).alloc (.cells (triL c).toArray 25)) w.heap.size 0 a ∧
    C9 (((w.alloc (.cells (triL a).toArray 25)).alloc (.cells (triL b).toArray 25)).alloc (.cells (triL c).toArray 25)) (w.heap.size + 1) 0 b ∧
    C9 (((w.alloc (.cells (triL a).toArray 25)).alloc (.cells (triL b).toArray 25)).alloc (.cells (triL c).toArray 25)) (w.heap.size + 2) 0 c := by
  have h1 : (w.alloc (.cells (triL a).toArray 25)).heap.size = w.heap.size + 1 := by simp
  have h2 : ((w.alloc (.cells (triL a).toArray 25)).alloc (.cells (triL b).toArray 25)).heap.size = w.heap.size + 2 := by simp
  refine ⟨((C9.new w a).alloc _).alloc _, ?_, ?_⟩
  · rw [← h1]; exact (C9.new _ b).alloc _
  · rw [← h2]; exact C9.new _ c
set_option maxHeartbeats 6400000 in
set_option maxRecDepth 100000 in
theorem walk0 (w : World) (he : Env w) (a b c : Triple) (ha : FitsW3 a) (hb : FitsW3 b) (hc : FitsW3 c) :
    Calls Tryz.prog 4 #[Ref5.tripleV a, Ref5.tripleV b, Ref5.tripleV c] w fun e w' => e = .returned (.bool true) ∧ Below w.heap.size w w' := by
  have hfits : ∀ t ∈ [a, b, c], FitsW3 t := by
    intro t ht
    simp at ht
    rcases ht with rfl | rfl | rfl <;> assumption
  have HROW := Lib.hid (fun w => rows_new w [a, b, c] (by simp) hfits)
  have HLong := Lib.hid (fun w => long_calls [a, b, c] (some ⟨w.heap.size, 0, none⟩) 3 (w.alloc (.cells ([a, b, c].flatMap triL).toArray 25)) (HROW.out w))
  have HMay := Lib.hid (fun w he (hs : total [a, b, c] ≤ 9000) => may_calls [a, b, c] (some ⟨w.heap.size, 0, none⟩) 3 (w.alloc (.cells ([a, b, c].flatMap triL).toArray 25)) he (HROW.out w) hs)
  have HSm := Lib.hid (fun (hs : total [a, b, c] ≤ 9000) => small_of hs)
  have HC1 := Lib.hid (fun (hs : total [a, b, c] ≤ 9000) w => cmp_calls a b (HSm.out hs a (by simp)) (HSm.out hs b (by simp)) w)
  have HC2 := Lib.hid (fun (hs : total [a, b, c] ≤ 9000) w => cmp_calls b c (HSm.out hs b (by simp)) (HSm.out hs c (by simp)) w)
  have HC3 := Lib.hid (fun (hs : total [a, b, c] ≤ 9000) w => cmp_calls a c (HSm.out hs a (by simp)) (HSm.out hs c (by simp)) w)
  have HC4 := Lib.hid (fun (hs : total [a, b, c] ≤ 9000) w => cmp_calls b a (HSm.out hs b (by simp)) (HSm.out hs a (by simp)) w)
  have HC5 := Lib.hid (fun (hs : total [a, b, c] ≤ 9000) w => RefCmp.cmp5_calls a b (HSm.out hs a (by simp)) (HSm.out hs b (by simp)) w)
  have HPure : Hid ([a, b, c].all isTriple = true → (cmpT a b = 0 ↔ a = b) ∧ cmpT b a = - cmpT a b ∧ (cmpT a b = -1 ∨ cmpT a b = 0 ∨ cmpT a b = 1) ∧ (cmpT a b ≤ 0 → cmpT b c ≤ 0 → cmpT a c ≤ 0)) := Lib.hid (fun h => by
    rw [List.all_eq_true] at h
    refine ⟨cmpT_eq (h a (by simp)) (h b (by simp)), cmpT_swap a b, cmpT_three a b, fun h1 h2 => ?_⟩
    have k1 : ¬ ltT b a := by unfold ltT; rw [cmpT_swap]; omega
    have k2 : ¬ ltT c b := by unfold ltT; rw [cmpT_swap]; omega
    have := SortP.le_trans k1 k2
    unfold ltT at this
    rw [cmpT_swap] at this
    omega)
  have HEQ := Lib.hid (fun w => TriEq.run_eq_tri a b w)
  have HE := Lib.hid he
  have HAB : Hid (∀ (h : a = b), (a = b)) := Lib.hid (fun h => h)
  clear he ha hb hc hfits HROW HSm
  generalize hcab : cmpT a b = p at *
  generalize hcbc : cmpT b c = q at *
  generalize hcac : cmpT a c = r at *
  generalize hcba : cmpT b a = p' at *
  clear hcab hcbc hcac hcba
  generalize htt : total [a, b, c] = tt at *
  generalize hall : [a, b, c].all isTriple = al at *
  clear htt hall
  generalize hdec : decide (a = b) = de at *
  have HD : Hid ((a = b) ↔ de = true) := Lib.hid (by rw [← hdec]; simp)
  clear hdec
  generalize (a = b) = AB at *
  obtain ⟨⟨sk, sx, se⟩, ⟨pk, px, pe⟩, ⟨ok, ox, oe⟩⟩ := a
  obtain ⟨⟨sk', sx', se'⟩, ⟨pk', px', pe'⟩, ⟨ok', ox', oe'⟩⟩ := b
  obtain ⟨⟨sk2, sx2, se2⟩, ⟨pk2, px2, pe2⟩, ⟨ok2, ox2, oe2⟩⟩ := c
  unfold Ref5.tripleV at *
  dsimp only at *
  go_enter Tryz.func4, Tryz.ntmps4
  go_upto_region 0 with fail
  go_cut [3, 4, 5, 6] (fun v3 v4 v5 v6 wx => v3 = .pointer (some ⟨w.heap.size, 0, none⟩) ∧ v4 = .pointer (some ⟨w.heap.size + 1, 0, none⟩) ∧ v5 = .pointer (some ⟨w.heap.size + 2, 0, none⟩) ∧ v6 = .bool false ∧ Hid (Below w.heap.size w wx) ∧ Hid (C9 wx w.heap.size 0 ⟨⟨sk, sx, se⟩, ⟨pk, px, pe⟩, ⟨ok, ox, oe⟩⟩) ∧ Hid (C9 wx (w.heap.size + 1) 0 ⟨⟨sk', sx', se'⟩, ⟨pk', px', pe'⟩, ⟨ok', ox', oe'⟩⟩) ∧ Hid (C9 wx (w.heap.size + 2) 0 ⟨⟨sk2, sx2, se2⟩, ⟨pk2, px2, pe2⟩, ⟨ok2, ox2, oe2⟩⟩))
  case first =>
    go_wp2
    go_meet
    exact ⟨rfl, rfl, rfl, rfl, Lib.hid (bel_alloc (bel_alloc (bel_alloc (Below.refl _ _) _) _) _), Lib.hid (box27 w ⟨⟨sk, sx, se⟩, ⟨pk, px, pe⟩, ⟨ok, ox, oe⟩⟩ ⟨⟨sk', sx', se'⟩, ⟨pk', px', pe'⟩, ⟨ok', ox', oe'⟩⟩ ⟨⟨sk2, sx2, se2⟩, ⟨pk2, px2, pe2⟩, ⟨ok2, ox2, oe2⟩⟩).1, Lib.hid (box27 w ⟨⟨sk, sx, se⟩, ⟨pk, px, pe⟩, ⟨ok, ox, oe⟩⟩ ⟨⟨sk', sx', se'⟩, ⟨pk', px', pe'⟩, ⟨ok', ox', oe'⟩⟩ ⟨⟨sk2, sx2, se2⟩, ⟨pk2, px2, pe2⟩, ⟨ok2, ox2, oe2⟩⟩).2.1, Lib.hid (box27 w ⟨⟨sk, sx, se⟩, ⟨pk, px, pe⟩, ⟨ok, ox, oe⟩⟩ ⟨⟨sk', sx', se'⟩, ⟨pk', px', pe'⟩, ⟨ok', ox', oe'⟩⟩ ⟨⟨sk2, sx2, se2⟩, ⟨pk2, px2, pe2⟩, ⟨ok2, ox2, oe2⟩⟩).2.2⟩
  case rest =>
  obtain ⟨rfl, rfl, rfl, rfl, HB, HA0, HB0, HC0⟩ := hcut
  have zA := HA0.out.lt
  have zB := HB0.out.lt
  have zC := HC0.out.lt
  obtain ⟨x0, x1, x2, x3, x4, x5, x6, x7, x8⟩ := HA0.out
  obtain ⟨y0, y1, y2, y3, y4, y5, y6, y7, y8⟩ := HB0.out
  obtain ⟨z0, z1, z2, z3, z4, z5, z6, z7, z8⟩ := HC0.out
  simp only [Nat.zero_add] at x0 x1 x2 x3 x4 x5 x6 x7 x8 y0 y1 y2 y3 y4 y5 y6 y7 y8 z0 z1 z2 z3 z4 z5 z6 z7 z8
  have HBr := Lib.hid (bel_alloc (Below.refl wc.heap.size wc) (.cells #[.int .i64 sk, .string (mkS sx), .string (mkS se), .int .i64 pk, .string (mkS px), .string (mkS pe), .int .i64 ok, .string (mkS ox), .string (mkS oe), .int .i64 sk', .string (mkS sx'), .string (mkS se'), .int .i64 pk', .string (mkS px'), .string (mkS pe'), .int .i64 ok', .string (mkS ox'), .string (mkS oe'), .int .i64 sk2, .string (mkS sx2), .string (mkS se2), .int .i64 pk2, .string (mkS px2), .string (mkS pe2), .int .i64 ok2, .string (mkS ox2), .string (mkS oe2)] 25))
  have HL := Lib.hid (HLong.out wc)
  by_cases htt : 9000 < tt
  · rw [decide_eq_true htt] at HL
    go_wp2_with fail
    refine HL.out.mono ?_
    rintro e w2 ⟨rfl, hb⟩
    have HB2 := Lib.hid (bel_step HB.out (bel_step HBr.out hb))
    clear hb
    go_wp2
    go_ret
    exact ⟨rfl, HB2.out⟩
  have htt2 : tt ≤ 9000 := by omega
  rw [decide_eq_false htt] at HL
  go_wp2_with fail
  refine HL.out.mono ?_
  rintro e w2 ⟨rfl, hb⟩
  have HB2 := Lib.hid (bel_step HBr.out hb)
  have HBw2 := Lib.hid (bel_step HB.out HB2.out)
  have HA1 := Lib.hid (HA0.out.below HB2.out)
  have HB1 := Lib.hid (HB0.out.below HB2.out)
  have HC1' := Lib.hid (HC0.out.below HB2.out)
  clear hb x0 x1 x2 x3 x4 x5 x6 x7 x8 y0 y1 y2 y3 y4 y5 y6 y7 y8 z0 z1 z2 z3 z4 z5 z6 z7 z8 HL HBr
  have zA1 := HA1.out.lt
  have zB1 := HB1.out.lt
  have zC1 := HC1'.out.lt
  obtain ⟨x0, x1, x2, x3, x4, x5, x6, x7, x8⟩ := HA1.out
  obtain ⟨y0, y1, y2, y3, y4, y5, y6, y7, y8⟩ := HB1.out
  obtain ⟨z0, z1, z2, z3, z4, z5, z6, z7, z8⟩ := HC1'.out
  simp only [Nat.zero_add] at x0 x1 x2 x3 x4 x5 x6 x7 x8 y0 y1 y2 y3 y4 y5 y6 y7 y8 z0 z1 z2 z3 z4 z5 z6 z7 z8
  have HBr2 := Lib.hid (bel_alloc (Below.refl w2.heap.size w2) (.cells #[.int .i64 sk, .string (mkS sx), .string (mkS se), .int .i64 pk, .string (mkS px), .string (mkS pe), .int .i64 ok, .string (mkS ox), .string (mkS oe), .int .i64 sk', .string (mkS sx'), .string (mkS se'), .int .i64 pk', .string (mkS px'), .string (mkS pe'), .int .i64 ok', .string (mkS ox'), .string (mkS oe'), .int .i64 sk2, .string (mkS sx2), .string (mkS se2), .int .i64 pk2, .string (mkS px2), .string (mkS pe2), .int .i64 ok2, .string (mkS ox2), .string (mkS oe2)] 25))
  have HE2 := Lib.hid (HE.out.below (bel_step HBw2.out HBr2.out))
  have HM := Lib.hid (HMay.out w2 HE2.out htt2)
  cases al
  · go_wp2_with fail
    refine HM.out.mono ?_
    rintro e w3 ⟨rfl, hb⟩
    have HB3 := Lib.hid (bel_step HBw2.out (bel_step HBr2.out hb))
    clear hb
    go_wp2
    go_ret
    exact ⟨rfl, HB3.out⟩
  go_wp2_with fail
  refine HM.out.mono ?_
  rintro e w3 ⟨rfl, hb⟩
  have HB3 := Lib.hid (bel_step HBr2.out hb)
  have HBw3 := Lib.hid (bel_step HBw2.out HB3.out)
  have HA2 := Lib.hid (HA1.out.below HB3.out)
  have HB22 := Lib.hid (HB1.out.below HB3.out)
  have HC2' := Lib.hid (HC1'.out.below HB3.out)
  clear hb x0 x1 x2 x3 x4 x5 x6 x7 x8 y0 y1 y2 y3 y4 y5 y6 y7 y8 z0 z1 z2 z3 z4 z5 z6 z7 z8 HM HBr2
  have zA2 := HA2.out.lt
  have zB2 := HB22.out.lt
  have zC2 := HC2'.out.lt
  have x0 : ∀ p : QT.Bel w3, p.w.cell? ⟨w.heap.size, 0, none⟩ = some (.int .i64 sk) := fun p => p.cell HA2.out.c0
  have x1 : ∀ p : QT.Bel w3, p.w.cell? ⟨w.heap.size, 1, none⟩ = some (.string (mkS sx)) := fun p => p.cell HA2.out.c1
  have x2 : ∀ p : QT.Bel w3, p.w.cell? ⟨w.heap.size, 2, none⟩ = some (.string (mkS se)) := fun p => p.cell HA2.out.c2
  have x3 : ∀ p : QT.Bel w3, p.w.cell? ⟨w.heap.size, 3, none⟩ = some (.int .i64 pk) := fun p => p.cell HA2.out.c3
  have x4 : ∀ p : QT.Bel w3, p.w.cell? ⟨w.heap.size, 4, none⟩ = some (.string (mkS px)) := fun p => p.cell HA2.out.c4
  have x5 : ∀ p : QT.Bel w3, p.w.cell? ⟨w.heap.size, 5, none⟩ = some (.string (mkS pe)) := fun p => p.cell HA2.out.c5
  have x6 : ∀ p : QT.Bel w3, p.w.cell? ⟨w.heap.size, 6, none⟩ = some (.int .i64 ok) := fun p => p.cell HA2.out.c6
  have x7 : ∀ p : QT.Bel w3, p.w.cell? ⟨w.heap.size, 7, none⟩ = some (.string (mkS ox)) := fun p => p.cell HA2.out.c7
  have x8 : ∀ p : QT.Bel w3, p.w.cell? ⟨w.heap.size, 8, none⟩ = some (.string (mkS oe)) := fun p => p.cell HA2.out.c8
  have y0 : ∀ p : QT.Bel w3, p.w.cell? ⟨w.heap.size + 1, 0, none⟩ = some (.int .i64 sk') := fun p => p.cell HB22.out.c0
  have y1 : ∀ p : QT.Bel w3, p.w.cell? ⟨w.heap.size + 1, 1, none⟩ = some (.string (mkS sx')) := fun p => p.cell HB22.out.c1
  have y2 : ∀ p : QT.Bel w3, p.w.cell? ⟨w.heap.size + 1, 2, none⟩ = some (.string (mkS se')) := fun p => p.cell HB22.out.c2
  have y3 : ∀ p : QT.Bel w3, p.w.cell? ⟨w.heap.size + 1, 3, none⟩ = some (.int .i64 pk') := fun p => p.cell HB22.out.c3
  have y4 : ∀ p : QT.Bel w3, p.w.cell? ⟨w.heap.size + 1, 4, none⟩ = some (.string (mkS px')) := fun p => p.cell HB22.out.c4
  have y5 : ∀ p : QT.Bel w3, p.w.cell? ⟨w.heap.size + 1, 5, none⟩ = some (.string (mkS pe')) := fun p => p.cell HB22.out.c5
  have y6 : ∀ p : QT.Bel w3, p.w.cell? ⟨w.heap.size + 1, 6, none⟩ = some (.int .i64 ok') := fun p => p.cell HB22.out.c6
  have y7 : ∀ p : QT.Bel w3, p.w.cell? ⟨w.heap.size + 1, 7, none⟩ = some (.string (mkS ox')) := fun p => p.cell HB22.out.c7
  have y8 : ∀ p : QT.Bel w3, p.w.cell? ⟨w.heap.size + 1, 8, none⟩ = some (.string (mkS oe')) := fun p => p.cell HB22.out.c8
  have z0 : ∀ p : QT.Bel w3, p.w.cell? ⟨w.heap.size + 2, 0, none⟩ = some (.int .i64 sk2) := fun p => p.cell HC2'.out.c0
  have z1 : ∀ p : QT.Bel w3, p.w.cell? ⟨w.heap.size + 2, 1, none⟩ = some (.string (mkS sx2)) := fun p => p.cell HC2'.out.c1
  have z2 : ∀ p : QT.Bel w3, p.w.cell? ⟨w.heap.size + 2, 2, none⟩ = some (.string (mkS se2)) := fun p => p.cell HC2'.out.c2
  have z3 : ∀ p : QT.Bel w3, p.w.cell? ⟨w.heap.size + 2, 3, none⟩ = some (.int .i64 pk2) := fun p => p.cell HC2'.out.c3
  have z4 : ∀ p : QT.Bel w3, p.w.cell? ⟨w.heap.size + 2, 4, none⟩ = some (.string (mkS px2)) := fun p => p.cell HC2'.out.c4
  have z5 : ∀ p : QT.Bel w3, p.w.cell? ⟨w.heap.size + 2, 5, none⟩ = some (.string (mkS pe2)) := fun p => p.cell HC2'.out.c5
  have z6 : ∀ p : QT.Bel w3, p.w.cell? ⟨w.heap.size + 2, 6, none⟩ = some (.int .i64 ok2) := fun p => p.cell HC2'.out.c6
  have z7 : ∀ p : QT.Bel w3, p.w.cell? ⟨w.heap.size + 2, 7, none⟩ = some (.string (mkS ox2)) := fun p => p.cell HC2'.out.c7
  have z8 : ∀ p : QT.Bel w3, p.w.cell? ⟨w.heap.size + 2, 8, none⟩ = some (.string (mkS oe2)) := fun p => p.cell HC2'.out.c8
  go_upto_region 3 with fail
  refine QT.region_all (by kernel_rfl) (by kernel_rfl) ?_
  iterate 2 (go_big_quiet_step (fail))
  go_big_quiet_step (exact QT.Bel.call _ (HC1.out htt2 _))
  iterate 2 (go_big_quiet_step (fail))
  go_big_quiet_step (exact QT.Bel.call _ (HC2.out htt2 _))
  iterate 2 (go_big_quiet_step (fail))
  go_big_quiet_step (exact QT.Bel.call _ (HC3.out htt2 _))
  repeat (go_big_quiet_step (fail))
  refine wpQuiet_nil ?_
  intro w4 hw'
  obtain ⟨⟨_, hb⟩, rfl⟩ := hw'
  have HBw4 := Lib.hid (bel_step HBw3.out hb)
  have HA4 := Lib.hid (HA2.out.below hb)
  have HB24 := Lib.hid (HB22.out.below hb)
  have HC4' := Lib.hid (HC2'.out.below hb)
  clear hb x0 x1 x2 x3 x4 x5 x6 x7 x8 y0 y1 y2 y3 y4 y5 y6 y7 y8 z0 z1 z2 z3 z4 z5 z6 z7 z8
  obtain ⟨hp0, hp', hp3, hpqr⟩ := HPure.out trivial
  have HCase : Hid ((p = 1 ∧ p' = -1 ∧ de = false) ∨ ((p = 0 ∧ p' = 0 ∧ de = true) ∧ (decide (0 < q) = true ∨ (decide (0 < q) = false ∧ decide (r ≤ 0) = true))) ∨ ((p = -1 ∧ p' = 1 ∧ de = false) ∧ (decide (0 < q) = true ∨ (decide (0 < q) = false ∧ decide (r ≤ 0) = true)))) := Lib.hid (by
    have hde : p ≠ 0 → de = false := fun h => by
      rw [← Bool.not_eq_true]
      intro h2
      exact h (hp0.2 (HD.out.2 h2))
    have hqr : p ≤ 0 → (decide (0 < q) = true ∨ (decide (0 < q) = false ∧ decide (r ≤ 0) = true)) := fun h => by
      by_cases hq : 0 < q
      · exact .inl (decide_eq_true hq)
      · exact .inr ⟨decide_eq_false hq, decide_eq_true (hpqr h (by omega))⟩
    rcases hp3 with h | h | h
    · exact .inr (.inr ⟨⟨h, by omega, hde (by omega)⟩, hqr (by omega)⟩)
    · exact .inr (.inl ⟨⟨h, by omega, HD.out.1 (hp0.1 h)⟩, hqr (by omega)⟩)
    · exact .inl ⟨h, by omega, hde (by omega)⟩)
  clear hp0 hp' hp3 hpqr HPure HD
  have heq := HEQ.out
  have zA4 := HA4.out.lt
  have zB4 := HB24.out.lt
  have zC4 := HC4'.out.lt
  obtain ⟨x0, x1, x2, x3, x4, x5, x6, x7, x8⟩ := HA4.out
  obtain ⟨y0, y1, y2, y3, y4, y5, y6, y7, y8⟩ := HB24.out
  simp only [Nat.zero_add] at x0 x1 x2 x3 x4 x5 x6 x7 x8 y0 y1 y2 y3 y4 y5 y6 y7 y8
  rcases HCase.out with ⟨rfl, rfl, rfl⟩ | ⟨⟨rfl, rfl, rfl⟩, hq | ⟨hq, hr⟩⟩ | ⟨⟨rfl, rfl, rfl⟩, hq | ⟨hq, hr⟩⟩
  all_goals
    clear HCase
    go_wp2_with fail
    refine (HC4.out htt2 _).mono ?_
    rintro e w5 ⟨rfl, hb⟩
    have HBw5 := Lib.hid (bel_step HBw4.out hb)
    have HA5 := Lib.hid (HA4.out.below hb)
    have HB25 := Lib.hid (HB24.out.below hb)
    have HC5' := Lib.hid (HC4'.out.below hb)
    clear hb x0 x1 x2 x3 x4 x5 x6 x7 x8 y0 y1 y2 y3 y4 y5 y6 y7 y8
    have zA5 := HA5.out.lt
    have zB5 := HB25.out.lt
    have zC5 := HC5'.out.lt
    obtain ⟨x0, x1, x2, x3, x4, x5, x6, x7, x8⟩ := HA5.out
    obtain ⟨y0, y1, y2, y3, y4, y5, y6, y7, y8⟩ := HB25.out
    simp only [Nat.zero_add] at x0 x1 x2 x3 x4 x5 x6 x7 x8 y0 y1 y2 y3 y4 y5 y6 y7 y8
    go_wp2_with fail
    refine (HC5.out htt2 _).mono ?_
    rintro e w6 ⟨rfl, hb⟩
    have HBw6 := Lib.hid (bel_step HBw5.out hb)
    have HA6 := Lib.hid (HA5.out.below hb)
    have HB26 := Lib.hid (HB25.out.below hb)
    have HC6' := Lib.hid (HC5'.out.below hb)
    clear hb x0 x1 x2 x3 x4 x5 x6 x7 x8 y0 y1 y2 y3 y4 y5 y6 y7 y8
    have zA6 := HA6.out.lt
    have zB6 := HB26.out.lt
    have zC6 := HC6'.out.lt
    obtain ⟨x0, x1, x2, x3, x4, x5, x6, x7, x8⟩ := HA6.out
    obtain ⟨y0, y1, y2, y3, y4, y5, y6, y7, y8⟩ := HB26.out
    simp only [Nat.zero_add] at x0 x1 x2 x3 x4 x5 x6 x7 x8 y0 y1 y2 y3 y4 y5 y6 y7 y8
    go_wp2_with fail
    refine (Known.known_calls _ (HE.out.below HBw6.out)).mono ?_
    rintro e w7 ⟨rfl, hb⟩
    have HBw7 := Lib.hid (bel_step HBw6.out hb)
    clear hb
    go_wp2
    go_ret
    exact ⟨rfl, HBw7.out⟩
theorem agg_of {w : World} {ok : Nat → Prop} {a : Triple} {cs : Array Value} (h : triK.M w ok a cs.toList) : Value.agg cs = Ref5.tripleV a ∧ FitsW3 a := by
  obtain ⟨h1, h2⟩ := h
  refine ⟨?_, h2⟩
  rw [tripleV_eq, ← h1]
theorem walk (w : World) (he : Env w) (a : Triple) (ca : Array Value) (ma : triK.M w (fun _ => True) a ca.toList) (b : Triple) (cb : Array Value) (mb : triK.M w (fun _ => True) b cb.toList) (c : Triple) (cc : Array Value) (mc : triK.M w (fun _ => True) c cc.toList) :
    Calls Tryz.prog 4 #[.agg ca, .agg cb, .agg cc] w fun e w' => e = .returned (.bool true) ∧ Below w.heap.size w w' := by
  rw [(agg_of ma).1, (agg_of mb).1, (agg_of mc).1]
  exact walk0 w he a b c (agg_of ma).2 (agg_of mb).2 (agg_of mc).2
end Go.Proofs.YtmcoloapiiakbaaGreatDoor.LOrder
/-
  A row of triples that is sorted in place.
-/
set_option linter.unusedVariables false
set_option linter.unusedSimpArgs false
namespace Go.Proofs.YtmcoloapiiakbaaGreatDoor.SortW
open Go.RowKit Go.Lib Go.Proofs.YtmcoloapiiakbaaGreatDoor.B Go.Proofs.YtmcoloapiiakbaaGreatDoor.Rd Go.Proofs.YtmcoloapiiakbaaGreatDoor.Utf Go.Proofs.YtmcoloapiiakbaaGreatDoor.TermPure Go.Proofs.YtmcoloapiiakbaaGreatDoor.LinesPure Go.Proofs.YtmcoloapiiakbaaGreatDoor.Tx Go.Proofs.YtmcoloapiiakbaaGreatDoor.Env Go.Proofs.YtmcoloapiiakbaaGreatDoor.Tri Go.Proofs.YtmcoloapiiakbaaGreatDoor.SortP Go.Proofs.YtmcoloapiiakbaaGreatDoor.Print Go.Proofs.YtmcoloapiiakbaaGreatDoor.Cmp Go.Proofs.YtmcoloapiiakbaaGreatDoor.Long

/-- A triple's nine cells are written. -/
def put9 (w : World) (g o : Nat) (t : Triple) : World := (((((((((w.setCell ⟨g, o, none⟩ (.int .i64 t.s.kind)).setCell ⟨g, o + 1, none⟩ (.string (mkS t.s.text))).setCell ⟨g, o + 2, none⟩ (.string (mkS t.s.extra))).setCell ⟨g, o + 3, none⟩ (.int .i64 t.p.kind)).setCell ⟨g, o + 4, none⟩ (.string (mkS t.p.text))).setCell ⟨g, o + 5, none⟩ (.string (mkS t.p.extra))).setCell ⟨g, o + 6, none⟩ (.int .i64 t.o.kind)).setCell ⟨g, o + 7, none⟩ (.string (mkS t.o.text))).setCell ⟨g, o + 8, none⟩ (.string (mkS t.o.extra)))
theorem some_set {w : World} {a b : Addr} {v : Value} (h : (w.cell? a).isSome = true) : ((w.setCell b v).cell? a).isSome = true := by
  by_cases e : b = a
  · subst e
    rw [World.cell?_setCell_same' _ _ _ h]
    rfl
  · first
      | (rw [World.cell?_setCell_other _ _ _ _ (fun h => e h)]; exact h)
      | (rw [World.cell?_setCell_other _ _ _ _ (fun h => e h.symm)]; exact h)
theorem same_of {w : World} {a : Addr} {v : Value} (h : (w.cell? a).isSome = true) : (w.setCell a v).cell? a = some v := World.cell?_setCell_same' _ _ _ h
theorem put9_other (w : World) (g o : Nat) (t : Triple) (j : Nat) (h : j < o ∨ o + 9 ≤ j) : (put9 w g o t).cell? ⟨g, j, none⟩ = w.cell? ⟨g, j, none⟩ := by
  unfold put9
  iterate 9 rw [World.cell?_setCell_other _ _ _ _ (by simp; try omega)]
theorem put9_frozen (w : World) (g o : Nat) (t : Triple) (a : Addr) : (put9 w g o t).frozen? a = w.frozen? a := by
  unfold put9
  iterate 9 rw [World.frozen?_setCell]
theorem set_grown {w0 w : World} {g : Nat} (h : w0.grownBy w (some g)) (j : Nat) (v : Value) : w0.grownBy (w.setCell ⟨g, j, none⟩ v) (some g) := h.trans (grown_setCell w ⟨g, j, none⟩ v)
theorem put9_grown (w : World) (g o : Nat) (t : Triple) : w.grownBy (put9 w g o t) (some g) := by
  unfold put9
  iterate 9 refine set_grown ?_ _ _
  exact World.grownBy.refl _ _
theorem put9_same {w : World} {g o : Nat} {t0 : Triple} (h : C9 w g o t0) (t : Triple) : C9 (put9 w g o t) g o t := by
  have s0 : (w.cell? ⟨g, o, none⟩).isSome = true := by rw [h.c0]; rfl
  have s1 : (w.cell? ⟨g, o + 1, none⟩).isSome = true := by rw [h.c1]; rfl
  have s2 : (w.cell? ⟨g, o + 2, none⟩).isSome = true := by rw [h.c2]; rfl
  have s3 : (w.cell? ⟨g, o + 3, none⟩).isSome = true := by rw [h.c3]; rfl
  have s4 : (w.cell? ⟨g, o + 4, none⟩).isSome = true := by rw [h.c4]; rfl
  have s5 : (w.cell? ⟨g, o + 5, none⟩).isSome = true := by rw [h.c5]; rfl
  have s6 : (w.cell? ⟨g, o + 6, none⟩).isSome = true := by rw [h.c6]; rfl
  have s7 : (w.cell? ⟨g, o + 7, none⟩).isSome = true := by rw [h.c7]; rfl
  have s8 : (w.cell? ⟨g, o + 8, none⟩).isSome = true := by rw [h.c8]; rfl
  unfold put9
  constructor
  · iterate 8 rw [World.cell?_setCell_other _ _ _ _ (by simp)]
    exact same_of s0
  · iterate 7 rw [World.cell?_setCell_other _ _ _ _ (by simp)]
    exact same_of (some_set s1)
  · iterate 6 rw [World.cell?_setCell_other _ _ _ _ (by simp)]
    exact same_of (some_set (some_set s2))
  · iterate 5 rw [World.cell?_setCell_other _ _ _ _ (by simp)]
    exact same_of (some_set (some_set (some_set s3)))
  · iterate 4 rw [World.cell?_setCell_other _ _ _ _ (by simp)]
    exact same_of (some_set (some_set (some_set (some_set s4))))
  · iterate 3 rw [World.cell?_setCell_other _ _ _ _ (by simp)]
    exact same_of (some_set (some_set (some_set (some_set (some_set s5)))))
  · iterate 2 rw [World.cell?_setCell_other _ _ _ _ (by simp)]
    exact same_of (some_set (some_set (some_set (some_set (some_set (some_set s6))))))
  · iterate 1 rw [World.cell?_setCell_other _ _ _ _ (by simp)]
    exact same_of (some_set (some_set (some_set (some_set (some_set (some_set (some_set s7)))))))
  · exact same_of (some_set (some_set (some_set (some_set (some_set (some_set (some_set (some_set s8))))))))
/-- A row at the head of block g, of a call's own. -/
structure SR (W : World) (g : Nat) (l : List Triple) (w : World) : Prop where
  grown : W.grownBy w (some g)
  cells : ∀ i (h : i < l.length), C9 w g (i * 9) l[i]
  free : ∀ j, j < l.length * 9 → w.frozen? ⟨g, j, none⟩ = false
theorem SR.lt {W w : World} {g : Nat} {l : List Triple} (h : SR W g l w) (hp : 0 < l.length) : g < w.heap.size := (h.cells 0 hp).lt
theorem SR.drewN {W w : World} {g : Nat} {l : List Triple} (h : SR W g l w) (n : Nat) : SR W g l (w.drewN n) :=
  ⟨⟨h.grown.os, h.grown.tape, h.grown.output, h.grown.size, h.grown.block⟩, fun i hi => (h.cells i hi).moved rfl, h.free⟩
theorem SR.drew {W w : World} {g : Nat} {l : List Triple} (h : SR W g l w) : SR W g l w.drew := h.drewN 1
theorem SR.below {W w w' : World} {g : Nat} {l : List Triple} (h : SR W g l w) (hg : g < w.heap.size) (hb : Below w.heap.size w w') : SR W g l w' :=
  ⟨h.grown.trans ⟨hb.os, hb.tape, hb.output, hb.size, fun k hk _ => hb.block k hk⟩, fun i hi => (h.cells i hi).below hb, fun j hj => (hb.frozen (p := ⟨g, j, none⟩) hg).trans (h.free j hj)⟩
/-- Two elements change places. -/
def swapL (l : List Triple) (i j : Nat) : List Triple := (l.set i (l.getD j Ref5.zeroTr)).set j (l.getD i Ref5.zeroTr)
theorem swapL_length (l : List Triple) (i j : Nat) : (swapL l i j).length = l.length := by simp [swapL]
theorem swapL_get (l : List Triple) (i j k : Nat) (hi : i < l.length) (hj : j < l.length) : (swapL l i j)[k]? = if k = j then l[i]? else if k = i then l[j]? else l[k]? := by
  unfold swapL
  rw [List.getElem?_set, List.getElem?_set, List.length_set, List.getD_eq_getElem?_getD, List.getD_eq_getElem?_getD, List.getElem?_eq_getElem hi, List.getElem?_eq_getElem hj]
  by_cases e1 : k = j
  · subst e1
    rw [if_pos rfl, if_pos rfl, if_pos hj]
    rfl
  · rw [if_neg (fun e => e1 e.symm), if_neg e1]
    by_cases e2 : k = i
    · subst e2
      rw [if_pos rfl, if_pos rfl, if_pos hi]
      rfl
    · rw [if_neg (fun e => e2 e.symm), if_neg e2]
theorem get_of {l : List Triple} {k : Nat} (h : k < l.length) {x : Triple} (hx : l[k]? = some x) : l[k] = x := by
  rw [List.getElem?_eq_getElem h] at hx
  exact Option.some.inj hx
theorem SR.swap {W w : World} {g : Nat} {l : List Triple} (h : SR W g l w) (i j : Nat) (hi : i < l.length) (hj : j < l.length) : SR W g (swapL l i j) (put9 (put9 w g (i * 9) l[j]) g (j * 9) l[i]) := by
  have hlen := swapL_length l i j
  refine ⟨h.grown.trans ((put9_grown _ _ _ _).trans (put9_grown _ _ _ _)), fun k hk => ?_, fun q hq => ?_⟩
  · have hk' : k < l.length := by omega
    have hget := swapL_get l i j k hi hj
    have apart : ∀ {w : World} {x y : Nat} {t t' : Triple}, x ≠ y → C9 w g (x * 9) t' → C9 (put9 w g (y * 9) t) g (x * 9) t' := fun {w x y t t'} hne hc => by
      have far : ∀ d, d < 9 → (x * 9 + d < y * 9 ∨ y * 9 + 9 ≤ x * 9 + d) := fun d hd => by omega
      exact ⟨(put9_other _ _ _ _ _ (far 0 (by omega))).trans hc.c0, (put9_other _ _ _ _ _ (far 1 (by omega))).trans hc.c1, (put9_other _ _ _ _ _ (far 2 (by omega))).trans hc.c2,
        (put9_other _ _ _ _ _ (far 3 (by omega))).trans hc.c3, (put9_other _ _ _ _ _ (far 4 (by omega))).trans hc.c4, (put9_other _ _ _ _ _ (far 5 (by omega))).trans hc.c5,
        (put9_other _ _ _ _ _ (far 6 (by omega))).trans hc.c6, (put9_other _ _ _ _ _ (far 7 (by omega))).trans hc.c7, (put9_other _ _ _ _ _ (far 8 (by omega))).trans hc.c8⟩
    by_cases e1 : k = j
    · rw [if_pos e1, List.getElem?_eq_getElem hi] at hget
      rw [get_of hk hget]
      subst e1
      by_cases e3 : i = k
      · subst e3
        exact put9_same (put9_same (h.cells i hi) _) _
      · exact put9_same (apart (fun e => e3 e.symm) (h.cells k hk')) _
    · rw [if_neg e1] at hget
      by_cases e2 : k = i
      · rw [if_pos e2, List.getElem?_eq_getElem hj] at hget
        rw [get_of hk hget]
        subst e2
        exact apart e1 (put9_same (h.cells k hk') _)
      · rw [if_neg e2, List.getElem?_eq_getElem hk'] at hget
        rw [get_of hk hget]
        exact apart e1 (apart e2 (h.cells k hk'))
  · rw [put9_frozen, put9_frozen]
    exact h.free q (by rw [hlen] at hq; exact hq)
end Go.Proofs.YtmcoloapiiakbaaGreatDoor.SortW
/-
  slices.swapRangeCmpFunc, walked.
-/
set_option linter.unusedVariables false
set_option linter.unusedSimpArgs false
namespace Go.Proofs.YtmcoloapiiakbaaGreatDoor.SortW
open Go.RowKit Go.Lib Go.Proofs.YtmcoloapiiakbaaGreatDoor.B Go.Proofs.YtmcoloapiiakbaaGreatDoor.Rd Go.Proofs.YtmcoloapiiakbaaGreatDoor.Utf Go.Proofs.YtmcoloapiiakbaaGreatDoor.TermPure Go.Proofs.YtmcoloapiiakbaaGreatDoor.LinesPure Go.Proofs.YtmcoloapiiakbaaGreatDoor.Tx Go.Proofs.YtmcoloapiiakbaaGreatDoor.Env Go.Proofs.YtmcoloapiiakbaaGreatDoor.Tri Go.Proofs.YtmcoloapiiakbaaGreatDoor.SortP Go.Proofs.YtmcoloapiiakbaaGreatDoor.Print Go.Proofs.YtmcoloapiiakbaaGreatDoor.Cmp Go.Proofs.YtmcoloapiiakbaaGreatDoor.Long

/-- Two parts of a row have changed places, so far. -/
def F (l : List Triple) (a b k q : Nat) : Option Triple := if a ≤ q ∧ q < a + k then l[q - a + b]? else if b ≤ q ∧ q < b + k then l[q - b + a]? else l[q]?
theorem F_zero (l : List Triple) (a b q : Nat) : F l a b 0 q = l[q]? := by
  unfold F
  rw [if_neg (by omega), if_neg (by omega)]
theorem F_step {l l' : List Triple} {a b n k : Nat} (h1 : a + n ≤ b) (h2 : b + n ≤ l.length) (hk : k < n) (hlen : l'.length = l.length) (hl : ∀ q, l'[q]? = F l a b k q) : ∀ q, (swapL l' (a + k) (b + k))[q]? = F l a b (k + 1) q := by
  intro q
  rw [swapL_get l' _ _ _ (by omega) (by omega), hl, hl, hl]
  unfold F
  by_cases e1 : q = b + k
  · subst e1
    rw [if_pos rfl, if_neg (by omega), if_neg (by omega), if_neg (by omega), if_pos (by omega)]
    congr 1
    omega
  · rw [if_neg e1]
    by_cases e2 : q = a + k
    · subst e2
      rw [if_pos rfl, if_neg (by omega), if_neg (by omega), if_pos (by omega)]
      congr 1
      omega
    · rw [if_neg e2]
      by_cases e3 : a ≤ q ∧ q < a + k
      · rw [if_pos e3, if_pos (by omega)]
      · rw [if_neg e3, if_neg (by omega : ¬ (a ≤ q ∧ q < a + (k + 1)))]
        by_cases e4 : b ≤ q ∧ q < b + k
        · rw [if_pos e4, if_pos (by omega)]
        · rw [if_neg e4, if_neg (by omega)]
/-- The parts have changed places. -/
theorem F_parts (P X M Y Q l' : List Triple) (hXY : X.length = Y.length) (hl : ∀ q, l'[q]? = F (P ++ (X ++ (M ++ (Y ++ Q)))) P.length (P.length + X.length + M.length) X.length q) : l' = P ++ (Y ++ (M ++ (X ++ Q))) := by
  apply List.ext_getElem?
  intro q
  rw [hl]
  unfold F
  simp only [List.getElem?_append]
  by_cases c1 : q < P.length
  · rw [if_neg (by omega), if_neg (by omega)]
    simp only [c1, if_true]
  · by_cases c2 : q < P.length + X.length
    · rw [if_pos (by omega)]
      rw [if_neg (by omega), if_neg (by omega), if_neg (by omega), if_pos (by omega), if_neg c1, if_pos (by omega)]
      congr 1
      omega
    · by_cases c3 : q < P.length + X.length + M.length
      · rw [if_neg (by omega), if_neg (by omega)]
        rw [if_neg c1, if_neg (by omega), if_pos (by omega), if_neg c1, if_neg (by omega), if_pos (by omega)]
        congr 1
        omega
      · by_cases c4 : q < P.length + X.length + M.length + X.length
        · rw [if_neg (by omega), if_pos (by omega)]
          rw [if_neg (by omega), if_pos (by omega), if_neg c1, if_neg (by omega), if_neg (by omega), if_pos (by omega)]
          congr 1
          omega
        · rw [if_neg (by omega), if_neg (by omega)]
          rw [if_neg c1, if_neg (by omega), if_neg (by omega), if_neg (by omega), if_neg c1, if_neg (by omega), if_neg (by omega), if_neg (by omega)]
          congr 1
          omega
theorem SR.free9 {W w : World} {g : Nat} {l : List Triple} (h : SR W g l w) (i : Nat) (hi : i < l.length) : w.frozen? ⟨g, i * 9, none⟩ = false ∧ w.frozen? ⟨g, i * 9 + 1, none⟩ = false ∧ w.frozen? ⟨g, i * 9 + 2, none⟩ = false ∧ w.frozen? ⟨g, i * 9 + 3, none⟩ = false ∧ w.frozen? ⟨g, i * 9 + 4, none⟩ = false ∧ w.frozen? ⟨g, i * 9 + 5, none⟩ = false ∧ w.frozen? ⟨g, i * 9 + 6, none⟩ = false ∧ w.frozen? ⟨g, i * 9 + 7, none⟩ = false ∧ w.frozen? ⟨g, i * 9 + 8, none⟩ = false :=
  ⟨h.free _ (by omega), h.free _ (by omega), h.free _ (by omega), h.free _ (by omega), h.free _ (by omega), h.free _ (by omega), h.free _ (by omega), h.free _ (by omega), h.free _ (by omega)⟩
set_option maxHeartbeats 6400000 in
set_option maxRecDepth 100000 in
theorem swapRange_calls (fv : Value) (l : List Triple) (L a b n cap : Nat) (hL : l.length = L) (hLs : L ≤ 140737488355328) (hab : a + n ≤ b) (hbn : b + n ≤ L) (g : Nat) (W w : World) (hS : SR W g l w) :
    Calls Tryz.prog 138 #[.slice (some ⟨g, 0, none⟩) L cap, .int .i64 a, .int .i64 b, .int .i64 n, fv] w fun e w' =>
      e = .returned (.tuple #[]) ∧ ∃ l', l'.length = L ∧ (∀ q, l'[q]? = F l a b n q) ∧ SR W g l' w' := by
  have HS0 := Lib.hid hS
  have HLl := Lib.hid hL
  clear hS hL
  go_enter Tryz.func138, Tryz.ntmps138
  go_wp2
  go_loopw [10] (fun vi wr => ∃ (k : Nat) (l' : List Triple), k ≤ n ∧ vi = .int .i64 k ∧ Hid (l'.length = L ∧ (∀ q, l'[q]? = F l a b k q) ∧ SR W g l' wr)) (fun vi _ => n - (intOf vi).toNat)
  case atStart => exact ⟨0, l, by omega, rfl, Lib.hid ⟨HLl.out, fun q => (F_zero l a b q).symm, HS0.out⟩⟩
  case round =>
    obtain ⟨k, l', hk, rfl, HR⟩ := hrel
    by_cases hlt : k < n
    · have hd : decide (k < n) = true := decide_eq_true hlt
      have ik : (k : Int) < (n : Int) := by omega
      obtain ⟨ia, hia⟩ : ∃ ia, ia = a + k := ⟨_, rfl⟩
      obtain ⟨ib, hib⟩ : ∃ ib, ib = b + k := ⟨_, rfl⟩
      have ja : (ia : Int) < (L : Int) := by omega
      have jb : (ib : Int) < (L : Int) := by omega
      have hwa : IntKind.i64.wrap ((a : Int) + (k : Int)) = (ia : Int) := by rw [IntKind.wrap_i64]; omega
      have hwb : IntKind.i64.wrap ((b : Int) + (k : Int)) = (ib : Int) := by rw [IntKind.wrap_i64]; omega
      have h9 : ia * 9 + 9 ≤ ib * 9 := by omega
      have D1 : ∀ e d, d < 9 → (ib * 9 + e = ia * 9 + d) = False := fun e d hd => eq_false (by omega)
      have D2 : ∀ d, d < 9 → (ib * 9 = ia * 9 + d) = False := fun d hd => eq_false (by omega)
      have D3 : ∀ e, (ib * 9 + e = ia * 9) = False := fun e => eq_false (by omega)
      have D4 : (ib * 9 = ia * 9) = False := eq_false (by omega)
      have D5 : ∀ e d, d < 9 → (ia * 9 + d = ib * 9 + e) = False := fun e d hd => eq_false (by omega)
      have D6 : ∀ d, d < 9 → (ia * 9 + d = ib * 9) = False := fun d hd => eq_false (by omega)
      have D7 : ∀ e, (ia * 9 = ib * 9 + e) = False := fun e => eq_false (by omega)
      have D8 : (ia * 9 = ib * 9) = False := eq_false (by omega)
      clear h9
      have hla : ia < l'.length := by rw [HR.out.1]; omega
      have hlb : ib < l'.length := by rw [HR.out.1]; omega
      have HStep := Lib.hid (F_step hab (by rw [HLl.out]; exact hbn) hlt (HR.out.1.trans HLl.out.symm) HR.out.2.1)
      rw [← hia, ← hib] at HStep
      have HLen := Lib.hid ((swapL_length l' ia ib).trans HR.out.1)
      obtain ⟨fa0, fa1, fa2, fa3, fa4, fa5, fa6, fa7, fa8⟩ := HR.out.2.2.free9 ia hla
      obtain ⟨fb0, fb1, fb2, fb3, fb4, fb5, fb6, fb7, fb8⟩ := HR.out.2.2.free9 ib hlb
      have hca := HR.out.2.2.cells ia hla
      have hcb := HR.out.2.2.cells ib hlb
      have HSW := Lib.hid (SR.drew (HR.out.2.2.swap ia ib hla hlb))
      obtain ⟨X, hX⟩ : ∃ X, X = l'[ia] := ⟨_, rfl⟩
      obtain ⟨Y, hY⟩ : ∃ Y, Y = l'[ib] := ⟨_, rfl⟩
      rw [← hX] at hca HSW
      rw [← hY] at hcb HSW
      clear hX hY hia hib hla hlb
      obtain ⟨⟨sk, sx, se⟩, ⟨pk, px, pe⟩, ⟨ok, ox, oe⟩⟩ := X
      obtain ⟨⟨sk', sx', se'⟩, ⟨pk', px', pe'⟩, ⟨ok', ox', oe'⟩⟩ := Y
      unfold put9 at HSW
      dsimp only at HSW
      obtain ⟨ca0, ca1, ca2, ca3, ca4, ca5, ca6, ca7, ca8⟩ := hca
      obtain ⟨cb0, cb1, cb2, cb3, cb4, cb5, cb6, cb7, cb8⟩ := hcb
      dsimp only at ca0 ca1 ca2 ca3 ca4 ca5 ca6 ca7 ca8 cb0 cb1 cb2 cb3 cb4 cb5 cb6 cb7 cb8
      go_upto_region 3 with fail
      go_big_region
      all_goals go_wp2
      go_roundw
      case rel => exact ⟨k + 1, _, by omega, by go_num, Lib.hid ⟨HLen.out, HStep.out, HSW.out⟩⟩
      case measure => simp [intOf]; omega
    · have hd : decide (k < n) = false := decide_eq_false hlt
      obtain rfl : k = n := by omega
      go_wp2
      go_end0
      exact ⟨rfl, _, HR.out.1, HR.out.2.1, HR.out.2.2⟩
end Go.Proofs.YtmcoloapiiakbaaGreatDoor.SortW
/-
  slices.rotateCmpFunc, walked.
-/
set_option linter.unusedVariables false
set_option linter.unusedSimpArgs false
namespace Go.Proofs.YtmcoloapiiakbaaGreatDoor.SortW
open Go.RowKit Go.Lib Go.Proofs.YtmcoloapiiakbaaGreatDoor.B Go.Proofs.YtmcoloapiiakbaaGreatDoor.Rd Go.Proofs.YtmcoloapiiakbaaGreatDoor.Utf Go.Proofs.YtmcoloapiiakbaaGreatDoor.TermPure Go.Proofs.YtmcoloapiiakbaaGreatDoor.LinesPure Go.Proofs.YtmcoloapiiakbaaGreatDoor.Tx Go.Proofs.YtmcoloapiiakbaaGreatDoor.Env Go.Proofs.YtmcoloapiiakbaaGreatDoor.Tri Go.Proofs.YtmcoloapiiakbaaGreatDoor.SortP Go.Proofs.YtmcoloapiiakbaaGreatDoor.Print Go.Proofs.YtmcoloapiiakbaaGreatDoor.Cmp Go.Proofs.YtmcoloapiiakbaaGreatDoor.Long

theorem swapParts_calls (fv : Value) (P X M Y Q : List Triple) (hXY : X.length = Y.length) (L : Nat) (hL : (P ++ (X ++ (M ++ (Y ++ Q)))).length = L) (hLs : L ≤ 140737488355328) (a b n cap : Nat) (ha : a = P.length) (hn : n = X.length) (hb : b = a + n + M.length) (g : Nat) (W w : World)
    (hS : SR W g (P ++ (X ++ (M ++ (Y ++ Q)))) w) :
    Calls Tryz.prog 138 #[.slice (some ⟨g, 0, none⟩) L cap, .int .i64 a, .int .i64 b, .int .i64 n, fv] w fun e w' => e = .returned (.tuple #[]) ∧ SR W g (P ++ (Y ++ (M ++ (X ++ Q)))) w' := by
  have hlen := hL
  simp only [List.length_append] at hlen
  refine (swapRange_calls fv _ L a b n cap hL hLs (by omega) (by omega) g W w hS).mono ?_
  rintro e w' ⟨h1, l', h2, h3, h4⟩
  refine ⟨h1, ?_⟩
  rw [F_parts P X M Y Q l' hXY (fun q => by rw [h3, hb, hn, ha])] at h4
  exact h4
set_option maxHeartbeats 6400000 in
set_option maxRecDepth 100000 in
theorem rotate_calls (fv : Value) (P X Y Q : List Triple) (hX : 0 < X.length) (hY : 0 < Y.length) (L : Nat) (hL : (P ++ (X ++ (Y ++ Q))).length = L) (hLs : L ≤ 140737488355328) (a m b cap : Nat) (ha : a = P.length) (hm : m = a + X.length) (hb : b = m + Y.length) (g : Nat) (W w : World)
    (hS : SR W g (P ++ (X ++ (Y ++ Q))) w) :
    Calls Tryz.prog 121 #[.slice (some ⟨g, 0, none⟩) L cap, .int .i64 a, .int .i64 m, .int .i64 b, fv] w fun e w' => e = .returned (.tuple #[]) ∧ SR W g (P ++ (Y ++ (X ++ Q))) w' := by
  have hlen := hL
  simp only [List.length_append] at hlen
  have HS0 := Lib.hid hS
  have HL := Lib.hid hL
  obtain ⟨nx, hnx⟩ : ∃ nx, nx = X.length := ⟨_, rfl⟩
  obtain ⟨ny, hny⟩ : ∃ ny, ny = Y.length := ⟨_, rfl⟩
  have HN := Lib.hid (show X.length = nx ∧ Y.length = ny ∧ P.length + nx = m from ⟨hnx.symm, hny.symm, by omega⟩)
  have w1 : IntKind.i64.wrap ((m : Int) - (a : Int)) = (nx : Int) := by rw [IntKind.wrap_i64]; omega
  have w2 : IntKind.i64.wrap ((b : Int) - (m : Int)) = (ny : Int) := by rw [IntKind.wrap_i64]; omega
  have b1 : 0 < nx := by omega
  have b2 : 0 < ny := by omega
  have b3 : nx ≤ m := by omega
  have b4 : m + ny ≤ L := by omega
  obtain ⟨T, hT⟩ : ∃ T, T = P ++ (Y ++ (X ++ Q)) := ⟨_, rfl⟩
  rw [← hT]
  have HT := Lib.hid hT
  clear hS hL hlen hX hY ha hm hb hnx hny hT
  go_enter Tryz.func121, Tryz.ntmps121
  go_wp2
  go_loopw [10, 11] (fun vi vj wr => ∃ (i j : Nat) (P' X' Y' Q' : List Triple), vi = .int .i64 i ∧ vj = .int .i64 j ∧ 0 < i ∧ 0 < j ∧ i ≤ m ∧ m + j ≤ L ∧
    Hid (X'.length = i ∧ Y'.length = j ∧ P'.length + i = m) ∧ Hid ((P' ++ (X' ++ (Y' ++ Q'))).length = L) ∧ Hid (T = P' ++ (Y' ++ (X' ++ Q'))) ∧ Hid (SR W g (P' ++ (X' ++ (Y' ++ Q'))) wr)) (fun vi vj _ => (intOf vi).toNat + (intOf vj).toNat)
  case atStart => exact ⟨nx, ny, P, X, Y, Q, rfl, rfl, b1, b2, b3, b4, HN, HL, HT, HS0⟩
  case round =>
    obtain ⟨i, j, P', X', Y', Q', rfl, rfl, hi, hj, him, hmj, HN', HL', HT', HS'⟩ := hrel
    clear w1 w2 b1 b2 b3 b4 HN HL HT HS0
    obtain ⟨mi, hmi⟩ : ∃ mi, mi = m - i := ⟨_, rfl⟩
    have w1 : IntKind.i64.wrap ((m : Int) - (i : Int)) = (mi : Int) := by rw [IntKind.wrap_i64]; omega
    by_cases hij : i = j
    · subst hij
      have hne : ((i : Int) != (i : Int)) = false := by simp
      have HC := Lib.hid (swapParts_calls fv P' X' [] Y' Q' (by rw [HN'.out.1, HN'.out.2.1]) L HL'.out hLs mi m i cap (by have := HN'.out.2.2; omega) HN'.out.1.symm (by simp; omega) g W wr HS'.out)
      clear hmi
      go_wp2_with fail
      refine HC.out.mono ?_
      rintro e w2 ⟨rfl, hS2⟩
      have HS2 := Lib.hid hS2
      clear hS2
      go_wp2
      go_end0
      exact ⟨rfl, by rw [HT'.out]; exact HS2.out⟩
    · have hne : ((i : Int) != (j : Int)) = true := by rw [bne_iff_ne]; omega
      by_cases hgt : j < i
      · have hd : decide (j < i) = true := decide_eq_true hgt
        have w3 : IntKind.i64.wrap ((i : Int) - (j : Int)) = ((i - j : Nat) : Int) := by rw [IntKind.wrap_i64]; omega
        have hsplit : X' = X'.take j ++ X'.drop j := (List.take_append_drop j X').symm
        have hl1 : (X'.take j).length = j := by rw [List.length_take, HN'.out.1]; omega
        have hl2 : (X'.drop j).length = i - j := by rw [List.length_drop, HN'.out.1]
        have HP := Lib.hid (show X'.length = i ∧ Y'.length = j ∧ P'.length + i = m from HN'.out)
        have HLx := Lib.hid HL'.out
        have HTx := Lib.hid HT'.out
        have HSx := Lib.hid HS'.out
        generalize hX1 : X'.take j = X1 at *
        generalize hX2 : X'.drop j = X2 at *
        rw [hsplit] at HLx HTx HSx
        have HC := Lib.hid (swapParts_calls fv P' X1 X2 Y' Q' (by rw [hl1, HP.out.2.1]) L (by have := HLx.out; rw [List.append_assoc] at this; exact this) hLs mi m j cap (by have := HP.out.2.2; omega) hl1.symm (by rw [hl2]; omega) g W wr (by have := HSx.out; rw [List.append_assoc] at this; exact this))
        have HN2 : Hid (X2.length = i - j ∧ X1.length = j ∧ (P' ++ Y').length + (i - j) = m) := Lib.hid ⟨hl2, hl1, by rw [List.length_append, HP.out.2.1]; have := HP.out.2.2; omega⟩
        have HL2 : Hid (((P' ++ Y') ++ (X2 ++ (X1 ++ Q'))).length = L) := Lib.hid (by have := HLx.out; simp only [List.length_append] at this ⊢; omega)
        have HT2 : Hid (T = (P' ++ Y') ++ (X1 ++ (X2 ++ Q'))) := Lib.hid (by rw [HTx.out]; simp only [List.append_assoc])
        clear hmi hl1 hl2 hX1 hX2 hsplit
        go_wp2_with fail
        refine HC.out.mono ?_
        rintro e w2 ⟨rfl, hS2⟩
        have HS2 : Hid (SR W g ((P' ++ Y') ++ (X2 ++ (X1 ++ Q'))) w2) := Lib.hid (by rw [List.append_assoc]; exact hS2)
        clear hS2
        go_wp2
        go_roundw
        case rel => exact ⟨i - j, j, P' ++ Y', X2, X1, Q', by go_num, rfl, by omega, hj, by omega, hmj, HN2, HL2, HT2, HS2⟩
        case measure => simp [intOf]; omega
      · have hd : decide (j < i) = false := decide_eq_false hgt
        have w3 : IntKind.i64.wrap ((j : Int) - (i : Int)) = ((j - i : Nat) : Int) := by rw [IntKind.wrap_i64]; omega
        obtain ⟨mj, hmj2⟩ : ∃ mj, mj = m + j := ⟨_, rfl⟩
        have w4 : IntKind.i64.wrap ((m : Int) + (j : Int)) = (mj : Int) := by rw [IntKind.wrap_i64]; omega
        obtain ⟨mk, hmk⟩ : ∃ mk, mk = mj - i := ⟨_, rfl⟩
        have w5 : IntKind.i64.wrap ((mj : Int) - (i : Int)) = (mk : Int) := by rw [IntKind.wrap_i64]; omega
        have hsplit : Y' = Y'.take (j - i) ++ Y'.drop (j - i) := (List.take_append_drop (j - i) Y').symm
        have hl1 : (Y'.take (j - i)).length = j - i := by rw [List.length_take, HN'.out.2.1]; omega
        have hl2 : (Y'.drop (j - i)).length = i := by rw [List.length_drop, HN'.out.2.1]; omega
        have HP := Lib.hid (show X'.length = i ∧ Y'.length = j ∧ P'.length + i = m from HN'.out)
        have HLx := Lib.hid HL'.out
        have HTx := Lib.hid HT'.out
        have HSx := Lib.hid HS'.out
        generalize hY1 : Y'.take (j - i) = Y1 at *
        generalize hY2 : Y'.drop (j - i) = Y2 at *
        rw [hsplit] at HLx HTx HSx
        have HC := Lib.hid (swapParts_calls fv P' X' Y1 Y2 Q' (by rw [hl2, HP.out.1]) L (by have := HLx.out; rw [List.append_assoc] at this; exact this) hLs mi mk i cap (by have := HP.out.2.2; omega) HP.out.1.symm (by rw [hl1]; omega) g W wr (by have := HSx.out; rw [List.append_assoc] at this; exact this))
        have HN2 : Hid (Y2.length = i ∧ Y1.length = j - i ∧ P'.length + i = m) := Lib.hid ⟨hl2, hl1, HP.out.2.2⟩
        have HL2 : Hid ((P' ++ (Y2 ++ (Y1 ++ (X' ++ Q')))).length = L) := Lib.hid (by have := HLx.out; simp only [List.length_append] at this ⊢; omega)
        have HT2 : Hid (T = P' ++ (Y1 ++ (Y2 ++ (X' ++ Q')))) := Lib.hid (by rw [HTx.out]; simp only [List.append_assoc])
        clear hmi hl1 hl2 hY1 hY2 hsplit hmk hmj2
        go_wp2_with fail
        refine HC.out.mono ?_
        rintro e w2 ⟨rfl, hS2⟩
        have HS2 := Lib.hid hS2
        clear hS2
        go_wp2
        go_roundw
        case rel => exact ⟨i, j - i, P', Y2, Y1, X' ++ Q', rfl, by go_num, hi, by omega, him, by omega, HN2, HL2, HT2, HS2⟩
        case measure => simp [intOf]; omega
end Go.Proofs.YtmcoloapiiakbaaGreatDoor.SortW
/-
  slices.insertionSortCmpFunc, walked.
-/
set_option linter.unusedVariables false
set_option linter.unusedSimpArgs false
namespace Go.Proofs.YtmcoloapiiakbaaGreatDoor.SortW
open Go.RowKit Go.Lib Go.Proofs.YtmcoloapiiakbaaGreatDoor.B Go.Proofs.YtmcoloapiiakbaaGreatDoor.Rd Go.Proofs.YtmcoloapiiakbaaGreatDoor.Utf Go.Proofs.YtmcoloapiiakbaaGreatDoor.TermPure Go.Proofs.YtmcoloapiiakbaaGreatDoor.LinesPure Go.Proofs.YtmcoloapiiakbaaGreatDoor.Tx Go.Proofs.YtmcoloapiiakbaaGreatDoor.Env Go.Proofs.YtmcoloapiiakbaaGreatDoor.Tri Go.Proofs.YtmcoloapiiakbaaGreatDoor.SortP Go.Proofs.YtmcoloapiiakbaaGreatDoor.Print Go.Proofs.YtmcoloapiiakbaaGreatDoor.Cmp Go.Proofs.YtmcoloapiiakbaaGreatDoor.Long

abbrev Sorted' (l : List Triple) : Prop := l.Pairwise fun a b => ¬ ltT b a
theorem _root_.Go.Proofs.YtmcoloapiiakbaaGreatDoor.Long.C9.bel {w : World} {g o : Nat} {t : Triple} (h : Long.C9 w g o t) (p : QT.Bel w) : Long.C9 p.w g o t :=
  ⟨p.cell h.c0, p.cell h.c1, p.cell h.c2, p.cell h.c3, p.cell h.c4, p.cell h.c5, p.cell h.c6, p.cell h.c7, p.cell h.c8⟩
theorem swap_adj (A B : List Triple) (x y : Triple) : swapL (A ++ (y :: x :: B)) (A.length + 1) A.length = A ++ (x :: y :: B) := by
  apply List.ext_getElem?
  intro k
  rw [swapL_get _ _ _ _ (by simp) (by simp)]
  by_cases e1 : k = A.length
  · subst e1
    rw [if_pos rfl, List.getElem?_append_right (by omega), List.getElem?_append_right (by omega)]
    simp
  · rw [if_neg e1]
    by_cases e2 : k = A.length + 1
    · subst e2
      rw [if_pos rfl, List.getElem?_append_right (by omega), List.getElem?_append_right (by omega)]
      simp
    · rw [if_neg e2]
      by_cases e3 : k < A.length
      · rw [List.getElem?_append_left e3, List.getElem?_append_left e3]
      · rw [List.getElem?_append_right (by omega), List.getElem?_append_right (by omega)]
        obtain ⟨d, hd⟩ : ∃ d, k - A.length = d + 2 := ⟨k - A.length - 2, by omega⟩
        rw [hd]
        simp
theorem ins_done {S1 S2 : List Triple} {x : Triple} (h : Sorted' (S1 ++ S2)) (h2 : ∀ y ∈ S2, ltT x y) (h1 : S1 = [] ∨ ∃ S0 y, S1 = S0 ++ [y] ∧ ¬ ltT x y) : Sorted' (S1 ++ x :: S2) := by
  obtain ⟨p1, p2, p3⟩ := List.pairwise_append.1 h
  refine List.pairwise_append.2 ⟨p1, List.pairwise_cons.2 ⟨fun y hy => ltT_asymm (h2 y hy), p2⟩, fun u hu v hv => ?_⟩
  rcases List.mem_cons.1 hv with rfl | hv
  · rcases h1 with rfl | ⟨S0, y, rfl, hy⟩
    · cases hu
    · rcases List.mem_append.1 hu with hu' | hu'
      · have := (List.pairwise_append.1 p1).2.2 u hu' y (by simp)
        exact SortP.le_trans this hy
      · simp at hu'
        subst hu'
        exact hy
  · exact p3 u hu v hv
theorem sorted_take1 (A : List Triple) : Sorted' (A.take 1) := by
  cases A with
  | nil => simp
  | cons a A => simp
def cmpV : Value := .func (.func 15) #[] #[]
theorem get_at (P S : List Triple) (x : Triple) (Q : List Triple) (j : Nat) (hj : j = P.length + S.length) : ∃ h : j < (P ++ (S ++ (x :: Q))).length, (P ++ (S ++ (x :: Q)))[j] = x := by
  subst hj
  refine ⟨by simp, ?_⟩
  apply get_of
  rw [← List.append_assoc, List.getElem?_append_right (by simp)]
  simp
set_option maxHeartbeats 12800000 in
set_option maxRecDepth 100000 in
theorem insertion_calls (P A Q : List Triple) (L : Nat) (hL : (P ++ (A ++ Q)).length = L) (hLs : L ≤ 140737488355328) (a b cap : Nat) (ha : a = P.length) (hb : b = a + A.length) (hsm : ∀ t ∈ A, SmallT t) (g : Nat) (W w : World)
    (hS : SR W g (P ++ (A ++ Q)) w) :
    Calls Tryz.prog 99 #[.slice (some ⟨g, 0, none⟩) L cap, .int .i64 a, .int .i64 b, cmpV] w fun e w' => e = .returned (.tuple #[]) ∧ ∃ R, R.Perm A ∧ Sorted' R ∧ SR W g (P ++ (R ++ Q)) w' := by
  have hlen := hL
  simp only [List.length_append] at hlen
  have hbL : b ≤ L := by omega
  have HA := Lib.hid (show a = P.length ∧ b = a + A.length ∧ P.length + (A.length + Q.length) = L from ⟨ha, hb, hlen⟩)
  have HSm := Lib.hid hsm
  have h00 : Hid ((A.take 1).Perm (A.take (a + 1 - a)) ∧ Sorted' (A.take 1) ∧ SR W g (P ++ (A.take 1 ++ (A.drop (a + 1 - a) ++ Q))) w) := Lib.hid (by
    rw [show a + 1 - a = 1 by omega]
    refine ⟨List.Perm.refl _, sorted_take1 A, ?_⟩
    rw [← List.append_assoc (A.take 1), List.take_append_drop]
    exact hS)
  have hab : a ≤ b := by omega
  clear hS hL hlen ha hb hsm
  unfold cmpV
  go_enter Tryz.func99, Tryz.ntmps99
  go_wp2
  go_loopw [8] (fun vi wr => ∃ (i : Nat) (S : List Triple), vi = .int .i64 i ∧ a < i ∧ i ≤ b + 1 ∧ Hid (S.Perm (A.take (i - a)) ∧ Sorted' S ∧ SR W g (P ++ (S ++ (A.drop (i - a) ++ Q))) wr)) (fun vi _ => b + 1 - (intOf vi).toNat)
  case atStart => exact ⟨a + 1, A.take 1, by go_num, by omega, by omega, h00⟩
  case round =>
    obtain ⟨i, S, rfl, hai, hib, HR⟩ := hrel
    clear h00
    by_cases hlt : i < b
    · have hd : decide (i < b) = true := decide_eq_true hlt
      have ib : (i : Int) < (b : Int) := by omega
      have hiA : i - a < A.length := by have := HA.out.2.1; omega
      obtain ⟨x, hx⟩ : ∃ x, x = A[i - a] := ⟨_, rfl⟩
      have HX : Hid (SmallT x ∧ A.drop (i - a) = x :: A.drop (i - a + 1) ∧ A.take (i - a + 1) = A.take (i - a) ++ [x] ∧ S.length = i - a ∧ (∀ t ∈ S, SmallT t)) := Lib.hid (by
        refine ⟨by rw [hx]; exact HSm.out _ (List.getElem_mem hiA), by rw [hx]; exact List.drop_eq_getElem_cons hiA, by rw [hx, List.take_succ_eq_append_getElem hiA], ?_, fun t ht => HSm.out t (List.mem_of_mem_take (HR.out.1.mem_iff.1 ht))⟩
        rw [HR.out.1.length_eq, List.length_take]
        omega)
      have HI0 : Hid (S ++ [] = S ∧ (∀ y ∈ ([] : List Triple), ltT x y) ∧ SR W g (P ++ (S ++ (x :: ([] ++ (A.drop (i - a + 1) ++ Q))))) wr) := Lib.hid (by
        refine ⟨List.append_nil _, fun y hy => (by cases hy), ?_⟩
        have := HR.out.2.2
        rw [HX.out.2.1] at this
        exact this)
      clear hx hiA
      go_wp2
      go_loopw [9] (fun vj wx => ∃ (j : Nat) (S1 S2 : List Triple), vj = .int .i64 j ∧ j ≤ i ∧ a ≤ j ∧ Hid (j = a + S1.length ∧ S1 ++ S2 = S ∧ (∀ y ∈ S2, ltT x y) ∧ SR W g (P ++ (S1 ++ (x :: (S2 ++ (A.drop (i - a + 1) ++ Q))))) wx)) (fun vj _ => (intOf vj).toNat)
      case atStart => exact ⟨i, S, [], rfl, by omega, by omega, Lib.hid ⟨by rw [HX.out.2.2.2.1]; omega, HI0.out⟩⟩
      case round =>
        obtain ⟨j, S1, S2, rfl, hji, haj, HJ⟩ := hrel
        clear HI0
        have HDone : Hid ((S1 = [] ∨ ∃ S0 y, S1 = S0 ++ [y] ∧ ¬ ltT x y) → ∃ S', S'.Perm (A.take (i + 1 - a)) ∧ Sorted' S' ∧ S' = S1 ++ x :: S2) := Lib.hid (fun h => by
          refine ⟨_, ?_, ins_done (by rw [HJ.out.2.1]; exact HR.out.2.1) HJ.out.2.2.1 h, rfl⟩
          rw [show i + 1 - a = i - a + 1 by omega, HX.out.2.2.1]
          refine List.Perm.trans List.perm_middle ?_
          rw [HJ.out.2.1]
          exact (List.Perm.cons x HR.out.1).trans (List.perm_append_comm (l₁ := [x])))
        have HRow : Hid (∀ S', S' = S1 ++ x :: S2 → P ++ (S1 ++ (x :: (S2 ++ (A.drop (i - a + 1) ++ Q)))) = P ++ (S' ++ (A.drop (i + 1 - a) ++ Q))) := Lib.hid (fun S' h => by
          rw [h, show i + 1 - a = i - a + 1 by omega]
          simp)
        by_cases hS1 : S1 = []
        · have hja : j = a := by have := HJ.out.1; rw [hS1] at this; simpa using this
          have hd2 : decide (a < j) = false := decide_eq_false (by omega)
          obtain ⟨S', h1, h2, h3⟩ := HDone.out (.inl hS1)
          have HE : Hid (S'.Perm (A.take (i + 1 - a)) ∧ Sorted' S' ∧ ∀ nq, SR W g (P ++ (S' ++ (A.drop (i + 1 - a) ++ Q))) (wr.drewN nq)) := Lib.hid ⟨h1, h2, fun nq => by rw [← HRow.out S' h3]; exact HJ.out.2.2.2.drewN nq⟩
          clear h1 h2 h3 hS1 hja HDone HRow
          go_upto_region 4 with fail
          go_quiet (fail)
          go_wp2
          refine ⟨⟨i + 1, S', by go_num, by omega, by omega, Lib.hid ⟨HE.out.1, HE.out.2.1, HE.out.2.2 _⟩⟩, ?_⟩
          simp [intOf]; omega
        · obtain ⟨S0, y, hSy⟩ : ∃ S0 y, S1 = S0 ++ [y] := ⟨S1.dropLast, S1.getLast hS1, (List.dropLast_concat_getLast hS1).symm⟩
          subst hSy
          obtain ⟨jp, hjp⟩ : ∃ jp, jp = a + S0.length := ⟨_, rfl⟩
          have hj1 : j = jp + 1 := by have := HJ.out.1; simp at this; omega
          have hd2 : decide (a < j) = true := decide_eq_true (by omega)
          have hwj : IntKind.i64.wrap ((j : Int) - 1) = (jp : Int) := by rw [IntKind.wrap_i64]; omega
          have jL : (j : Int) < (L : Int) := by omega
          have jpL : (jp : Int) < (L : Int) := by omega
          have HEq : Hid (P ++ ((S0 ++ [y]) ++ (x :: (S2 ++ (A.drop (i - a + 1) ++ Q)))) = P ++ (S0 ++ (y :: x :: (S2 ++ (A.drop (i - a + 1) ++ Q))))) := Lib.hid (by simp)
          have HS9 : Hid (SR W g (P ++ (S0 ++ (y :: x :: (S2 ++ (A.drop (i - a + 1) ++ Q))))) wr) := Lib.hid (by rw [← HEq.out]; exact HJ.out.2.2.2)
          obtain ⟨hjl, hjx⟩ := get_at P (S0 ++ [y]) x (S2 ++ (A.drop (i - a + 1) ++ Q)) j (by rw [HJ.out.1, HA.out.1])
          obtain ⟨hpl, hpx⟩ := get_at P S0 y (x :: (S2 ++ (A.drop (i - a + 1) ++ Q))) jp (by rw [hjp, HA.out.1])
          have hcj := HJ.out.2.2.2.cells j hjl
          rw [hjx] at hcj
          have hcp := HS9.out.cells jp hpl
          rw [hpx] at hcp
          have hjl2 : j < (P ++ (S0 ++ (y :: x :: (S2 ++ (A.drop (i - a + 1) ++ Q))))).length := by rw [← HEq.out]; exact hjl
          have hjx2 : (P ++ (S0 ++ (y :: x :: (S2 ++ (A.drop (i - a + 1) ++ Q)))))[j] = x := by
            have key : ∀ (l' : List Triple) (h' : P ++ ((S0 ++ [y]) ++ (x :: (S2 ++ (A.drop (i - a + 1) ++ Q)))) = l') (hb : j < l'.length), l'[j] = x := by
              rintro l' rfl hb
              exact hjx
            exact key _ HEq.out hjl2
          have HSwF : Hid (∀ w2, SR W g (P ++ (S0 ++ (y :: x :: (S2 ++ (A.drop (i - a + 1) ++ Q))))) w2 → SR W g (P ++ (S0 ++ (x :: ((y :: S2) ++ (A.drop (i - a + 1) ++ Q))))) (put9 (put9 w2 g (j * 9) y) g (jp * 9) x).drew) := Lib.hid (fun w2 hS2 => by
            have hSw := hS2.swap j jp hjl2 hpl
            rw [hjx2, hpx, show j = (P ++ S0).length + 1 by rw [hj1, hjp, HA.out.1, List.length_append], show jp = (P ++ S0).length by rw [hjp, HA.out.1, List.length_append]] at hSw
            rw [← List.append_assoc P S0, swap_adj, List.append_assoc, show (P ++ S0).length + 1 = j by rw [hj1, hjp, HA.out.1, List.length_append], show (P ++ S0).length = jp by rw [hjp, HA.out.1, List.length_append]] at hSw
            exact hSw.drew)
          have HFree : Hid (∀ w2, SR W g (P ++ (S0 ++ (y :: x :: (S2 ++ (A.drop (i - a + 1) ++ Q))))) w2 → (∀ d, d < 9 → w2.frozen? ⟨g, j * 9 + d, none⟩ = false ∧ w2.frozen? ⟨g, jp * 9 + d, none⟩ = false)) := Lib.hid (fun w2 hS2 d hd => ⟨hS2.free _ (by omega), hS2.free _ (by omega)⟩)
          have HC := Lib.hid (fun w => cmp_calls x y HX.out.1 (HX.out.2.2.2.2 y (by rw [← HJ.out.2.1]; simp)) w)
          have hgl : g < wr.heap.size := hcj.lt
          have HBk : Hid (∀ w2, Below wr.heap.size wr w2 → SR W g (P ++ ((S0 ++ [y]) ++ (x :: (S2 ++ (A.drop (i - a + 1) ++ Q))))) w2) := Lib.hid (fun w2 hb => HJ.out.2.2.2.below hgl hb)
          have HLt : Hid (cmpT x y < 0 ↔ ltT x y) := Lib.hid Iff.rfl
          obtain ⟨v, hv⟩ : ∃ v, v = cmpT x y := ⟨_, rfl⟩
          rw [← hv] at HC HLt
          have HNext : Hid (ltT x y → jp = a + S0.length ∧ S0 ++ (y :: S2) = S ∧ (∀ z ∈ (y :: S2), ltT x z)) := Lib.hid (fun hxy => ⟨hjp, by rw [← HJ.out.2.1]; simp, fun z hz => by
            rcases List.mem_cons.1 hz with rfl | hz
            · exact hxy
            · exact HJ.out.2.2.1 z hz⟩)
          have hjp9 : jp * 9 + 9 ≤ j * 9 := by omega
          have hapj : a ≤ jp := by omega
          have hjpj : jp < j := by omega
          have HIdx : Hid (SR W g (P ++ (S0 ++ (y :: x :: (S2 ++ (A.drop (i - a + 1) ++ Q))))) wr) := HS9
          clear hv hjl hpl hjx hpx hjl2 hjx2 hj1 hjp hS1 HEq
          by_cases hvn : v < 0
          · -- less: they change places
            have hvd : decide (v < 0) = true := decide_eq_true hvn
            have hxy : Hid (ltT x y) := Lib.hid (HLt.out.1 hvn)
            obtain ⟨⟨sk, sx, se⟩, ⟨pk, px, pe⟩, ⟨ok, ox, oe⟩⟩ := x
            obtain ⟨⟨sk', sx', se'⟩, ⟨pk', px', pe'⟩, ⟨ok', ox', oe'⟩⟩ := y
            have x0 := fun p => (hcj.bel p).c0
            have x1 := fun p => (hcj.bel p).c1
            have x2 := fun p => (hcj.bel p).c2
            have x3 := fun p => (hcj.bel p).c3
            have x4 := fun p => (hcj.bel p).c4
            have x5 := fun p => (hcj.bel p).c5
            have x6 := fun p => (hcj.bel p).c6
            have x7 := fun p => (hcj.bel p).c7
            have x8 := fun p => (hcj.bel p).c8
            have y0 := fun p => (hcp.bel p).c0
            have y1 := fun p => (hcp.bel p).c1
            have y2 := fun p => (hcp.bel p).c2
            have y3 := fun p => (hcp.bel p).c3
            have y4 := fun p => (hcp.bel p).c4
            have y5 := fun p => (hcp.bel p).c5
            have y6 := fun p => (hcp.bel p).c6
            have y7 := fun p => (hcp.bel p).c7
            have y8 := fun p => (hcp.bel p).c8
            dsimp only at x0 x1 x2 x3 x4 x5 x6 x7 x8 y0 y1 y2 y3 y4 y5 y6 y7 y8
            unfold Ref5.tripleV at HC
            dsimp only at HC
            go_upto_region 4 with fail
            refine QT.region_all (by kernel_rfl) (by kernel_rfl) ?_
            iterate 14 (go_big_quiet_step (fail))
            go_big_quiet_step (exact QT.Bel.call _ (HC.out _))
            iterate 2 (go_big_quiet_step (fail))
            refine wpQuiet_nil ?_
            intro w2 hw'
            obtain ⟨⟨_, hb⟩, rfl⟩ := hw'
            have HS2 := Lib.hid (HIdx.out.below hgl hb)
            have HSW := Lib.hid (HSwF.out w2 HS2.out)
            unfold put9 at HSW
            dsimp only at HSW
            have f0 := (HFree.out w2 HS2.out 0 (by omega)).1
            have e0 := (HFree.out w2 HS2.out 0 (by omega)).2
            have f1 := (HFree.out w2 HS2.out 1 (by omega)).1
            have e1 := (HFree.out w2 HS2.out 1 (by omega)).2
            have f2 := (HFree.out w2 HS2.out 2 (by omega)).1
            have e2 := (HFree.out w2 HS2.out 2 (by omega)).2
            have f3 := (HFree.out w2 HS2.out 3 (by omega)).1
            have e3 := (HFree.out w2 HS2.out 3 (by omega)).2
            have f4 := (HFree.out w2 HS2.out 4 (by omega)).1
            have e4 := (HFree.out w2 HS2.out 4 (by omega)).2
            have f5 := (HFree.out w2 HS2.out 5 (by omega)).1
            have e5 := (HFree.out w2 HS2.out 5 (by omega)).2
            have f6 := (HFree.out w2 HS2.out 6 (by omega)).1
            have e6 := (HFree.out w2 HS2.out 6 (by omega)).2
            have f7 := (HFree.out w2 HS2.out 7 (by omega)).1
            have e7 := (HFree.out w2 HS2.out 7 (by omega)).2
            have f8 := (HFree.out w2 HS2.out 8 (by omega)).1
            have e8 := (HFree.out w2 HS2.out 8 (by omega)).2
            have a0 := (hcj.below hb).c0
            have b0 := (hcp.below hb).c0
            have a1 := (hcj.below hb).c1
            have b1 := (hcp.below hb).c1
            have a2 := (hcj.below hb).c2
            have b2 := (hcp.below hb).c2
            have a3 := (hcj.below hb).c3
            have b3 := (hcp.below hb).c3
            have a4 := (hcj.below hb).c4
            have b4 := (hcp.below hb).c4
            have a5 := (hcj.below hb).c5
            have b5 := (hcp.below hb).c5
            have a6 := (hcj.below hb).c6
            have b6 := (hcp.below hb).c6
            have a7 := (hcj.below hb).c7
            have b7 := (hcp.below hb).c7
            have a8 := (hcj.below hb).c8
            have b8 := (hcp.below hb).c8
            simp only [Nat.add_zero] at f0 e0
            clear hb x0 x1 x2 x3 x4 x5 x6 x7 x8 y0 y1 y2 y3 y4 y5 y6 y7 y8 hcj hcp
            dsimp only at a0 a1 a2 a3 a4 a5 a6 a7 a8 b0 b1 b2 b3 b4 b5 b6 b7 b8
            have D1 : ∀ e d, d < 9 → (j * 9 + e = jp * 9 + d) = False := fun e d hd => eq_false (by omega)
            have D2 : ∀ d, d < 9 → (j * 9 = jp * 9 + d) = False := fun d hd => eq_false (by omega)
            have D3 : ∀ e, (j * 9 + e = jp * 9) = False := fun e => eq_false (by omega)
            have D4 : (j * 9 = jp * 9) = False := eq_false (by omega)
            have D5 : ∀ e d, d < 9 → (jp * 9 + d = j * 9 + e) = False := fun e d hd => eq_false (by omega)
            have D6 : ∀ d, d < 9 → (jp * 9 + d = j * 9) = False := fun d hd => eq_false (by omega)
            have D7 : ∀ e, (jp * 9 = j * 9 + e) = False := fun e => eq_false (by omega)
            have D8 : (jp * 9 = j * 9) = False := eq_false (by omega)
            clear hjp9
            go_upto_region 6 with fail
            go_big_region
            all_goals go_wp2
            go_roundw
            case rel => exact ⟨jp, S0, _ :: S2, by go_num, by omega, by omega, Lib.hid ⟨(HNext.out hxy.out).1, (HNext.out hxy.out).2.1, (HNext.out hxy.out).2.2, HSW.out⟩⟩
            case measure => simp [intOf]; omega
          · have hvd : decide (v < 0) = false := decide_eq_false hvn
            obtain ⟨S', h1, h2, h3⟩ := HDone.out (.inr ⟨S0, y, rfl, fun h => hvn (HLt.out.2 h)⟩)
            have HE : Hid (S'.Perm (A.take (i + 1 - a)) ∧ Sorted' S' ∧ ∀ w2, Below wr.heap.size wr w2 → SR W g (P ++ (S' ++ (A.drop (i + 1 - a) ++ Q))) w2) := Lib.hid ⟨h1, h2, fun w2 hb => by rw [← HRow.out S' h3]; exact HBk.out w2 hb⟩
            clear h1 h2 h3 HDone HRow hvn
            obtain ⟨⟨sk, sx, se⟩, ⟨pk, px, pe⟩, ⟨ok, ox, oe⟩⟩ := x
            obtain ⟨⟨sk', sx', se'⟩, ⟨pk', px', pe'⟩, ⟨ok', ox', oe'⟩⟩ := y
            have x0 := fun p => (hcj.bel p).c0
            have x1 := fun p => (hcj.bel p).c1
            have x2 := fun p => (hcj.bel p).c2
            have x3 := fun p => (hcj.bel p).c3
            have x4 := fun p => (hcj.bel p).c4
            have x5 := fun p => (hcj.bel p).c5
            have x6 := fun p => (hcj.bel p).c6
            have x7 := fun p => (hcj.bel p).c7
            have x8 := fun p => (hcj.bel p).c8
            have y0 := fun p => (hcp.bel p).c0
            have y1 := fun p => (hcp.bel p).c1
            have y2 := fun p => (hcp.bel p).c2
            have y3 := fun p => (hcp.bel p).c3
            have y4 := fun p => (hcp.bel p).c4
            have y5 := fun p => (hcp.bel p).c5
            have y6 := fun p => (hcp.bel p).c6
            have y7 := fun p => (hcp.bel p).c7
            have y8 := fun p => (hcp.bel p).c8
            dsimp only at x0 x1 x2 x3 x4 x5 x6 x7 x8 y0 y1 y2 y3 y4 y5 y6 y7 y8
            unfold Ref5.tripleV at HC
            dsimp only at HC
            go_upto_region 4 with fail
            refine QT.region_all (by kernel_rfl) (by kernel_rfl) ?_
            iterate 14 (go_big_quiet_step (fail))
            go_big_quiet_step (exact QT.Bel.call _ (HC.out _))
            iterate 2 (go_big_quiet_step (fail))
            refine wpQuiet_nil ?_
            intro w2 hw'
            obtain ⟨⟨_, hb⟩, rfl⟩ := hw'
            have HE2 := Lib.hid (HE.out.2.2 w2 hb)
            clear hb x0 x1 x2 x3 x4 x5 x6 x7 x8 y0 y1 y2 y3 y4 y5 y6 y7 y8 hcj hcp
            go_wp2
            refine ⟨⟨i + 1, S', by go_num, by omega, by omega, Lib.hid ⟨HE.out.1, HE.out.2.1, HE2.out⟩⟩, ?_⟩
            simp [intOf]; omega
    · have hd : decide (i < b) = false := decide_eq_false hlt
      have HV : Hid (∃ R, R.Perm A ∧ Sorted' R ∧ SR W g (P ++ (R ++ Q)) wr) := Lib.hid (by
        have h1 : A.length ≤ i - a := by have := HA.out.2.1; omega
        obtain ⟨p1, p2, p3⟩ := HR.out
        rw [List.take_of_length_le h1] at p1
        rw [List.drop_eq_nil_of_le h1, List.nil_append] at p3
        exact ⟨S, p1, p2, p3⟩)
      go_wp2
      go_end0
      exact ⟨rfl, HV.out⟩
end Go.Proofs.YtmcoloapiiakbaaGreatDoor.SortW
/-
  Merging two sorted rows, plain.
-/
set_option linter.unusedVariables false
set_option linter.unusedSimpArgs false
namespace Go.Proofs.YtmcoloapiiakbaaGreatDoor.SortW
open Go.RowKit Go.Lib Go.Proofs.YtmcoloapiiakbaaGreatDoor.B Go.Proofs.YtmcoloapiiakbaaGreatDoor.Rd Go.Proofs.YtmcoloapiiakbaaGreatDoor.Utf Go.Proofs.YtmcoloapiiakbaaGreatDoor.TermPure Go.Proofs.YtmcoloapiiakbaaGreatDoor.LinesPure Go.Proofs.YtmcoloapiiakbaaGreatDoor.SortP

theorem sorted_get {l : List Triple} (h : Sorted' l) {i j : Nat} {u v : Triple} (hij : i ≤ j) (hi : l[i]? = some u) (hj : l[j]? = some v) : ¬ ltT v u := by
  obtain ⟨hi', rfl⟩ := List.getElem?_eq_some_iff.1 hi
  obtain ⟨hj', rfl⟩ := List.getElem?_eq_some_iff.1 hj
  by_cases e : i = j
  · subst e
    exact ltT_irrefl _
  · exact List.pairwise_iff_getElem.1 h i j hi' hj' (by omega)
theorem ins_gen {S1 S2 : List Triple} {x : Triple} (h : Sorted' (S1 ++ S2)) (h1 : ∀ u ∈ S1, ¬ ltT x u) (h2 : ∀ v ∈ S2, ¬ ltT v x) : Sorted' (S1 ++ x :: S2) := by
  obtain ⟨p1, p2, p3⟩ := List.pairwise_append.1 h
  refine List.pairwise_append.2 ⟨p1, List.pairwise_cons.2 ⟨h2, p2⟩, fun u hu v hv => ?_⟩
  rcases List.mem_cons.1 hv with rfl | hv
  · exact h1 u hu
  · exact p3 u hu v hv
theorem mem_take_get {l : List Triple} {i : Nat} {u : Triple} (h : u ∈ l.take i) : ∃ k, k < i ∧ l[k]? = some u := by
  obtain ⟨k, hk⟩ := List.mem_iff_getElem?.1 h
  rw [List.getElem?_take] at hk
  split at hk
  · rename_i hlt; exact ⟨k, hlt, hk⟩
  · cases hk
theorem mem_drop_get {l : List Triple} {i : Nat} {u : Triple} (h : u ∈ l.drop i) : ∃ k, i ≤ k ∧ l[k]? = some u := by
  obtain ⟨k, hk⟩ := List.mem_iff_getElem?.1 h
  rw [List.getElem?_drop] at hk
  exact ⟨i + k, by omega, hk⟩
theorem one_in {B : List Triple} {x : Triple} {i : Nat} (hB : Sorted' B) (h1 : i = 0 ∨ ∃ y, B[i - 1]? = some y ∧ ¬ ltT x y) (h2 : B.length ≤ i ∨ ∃ y, B[i]? = some y ∧ ¬ ltT y x) : Sorted' (B.take i ++ x :: B.drop i) := by
  refine ins_gen (by rw [List.take_append_drop]; exact hB) (fun u hu => ?_) (fun v hv => ?_)
  · obtain ⟨k, hk, hu⟩ := mem_take_get hu
    rcases h1 with h1 | ⟨y, hy, hn⟩
    · omega
    · exact SortP.le_trans (sorted_get hB (by omega) hu hy) hn
  · obtain ⟨k, hk, hv⟩ := mem_drop_get hv
    rcases h2 with h2 | ⟨y, hy, hn⟩
    · have := (List.getElem?_eq_some_iff.1 hv).1; omega
    · exact SortP.le_trans hn (sorted_get hB hk hy hv)
theorem one_perm (B : List Triple) (x : Triple) (i : Nat) : (B.take i ++ x :: B.drop i).Perm ([x] ++ B) := by
  refine List.perm_middle.trans ?_
  rw [List.take_append_drop]
  exact List.Perm.refl _
theorem halves {A B R1 R2 : List Triple} {s e : Nat} (hA : Sorted' A) (hB : Sorted' B)
    (h1 : s = 0 ∨ B.length ≤ e ∨ ∃ u v, A[s - 1]? = some u ∧ B[e]? = some v ∧ ¬ ltT v u) (h2 : A.length ≤ s ∨ e = 0 ∨ ∃ u v, B[e - 1]? = some u ∧ A[s]? = some v ∧ ¬ ltT v u)
    (p1 : R1.Perm (A.take s ++ B.take e)) (p2 : R2.Perm (A.drop s ++ B.drop e)) (s1 : Sorted' R1) (s2 : Sorted' R2) : (R1 ++ R2).Perm (A ++ B) ∧ Sorted' (R1 ++ R2) := by
  constructor
  · refine (List.Perm.append p1 p2).trans ?_
    conv => rhs; rw [← List.take_append_drop s A, ← List.take_append_drop e B]
    simp only [List.append_assoc]
    refine List.Perm.append_left _ ?_
    rw [← List.append_assoc, ← List.append_assoc]
    exact List.Perm.append_right _ List.perm_append_comm
  · refine List.pairwise_append.2 ⟨s1, s2, fun x hx y hy => ?_⟩
    rcases List.mem_append.1 (p1.mem_iff.1 hx) with hx | hx
    · obtain ⟨k, hk, hx⟩ := mem_take_get hx
      rcases List.mem_append.1 (p2.mem_iff.1 hy) with hy | hy
      · obtain ⟨q, hq, hy⟩ := mem_drop_get hy
        exact sorted_get hA (by omega) hx hy
      · obtain ⟨q, hq, hy⟩ := mem_drop_get hy
        rcases h1 with h1 | h1 | ⟨u, v, hu, hv, hn⟩
        · omega
        · have := (List.getElem?_eq_some_iff.1 hy).1; omega
        · exact SortP.le_trans (sorted_get hA (by omega) hx hu) (SortP.le_trans hn (sorted_get hB hq hv hy))
    · obtain ⟨k, hk, hx⟩ := mem_take_get hx
      rcases List.mem_append.1 (p2.mem_iff.1 hy) with hy | hy
      · obtain ⟨q, hq, hy⟩ := mem_drop_get hy
        rcases h2 with h2 | h2 | ⟨u, v, hu, hv, hn⟩
        · have := (List.getElem?_eq_some_iff.1 hy).1; omega
        · omega
        · exact SortP.le_trans (sorted_get hB (by omega) hx hu) (SortP.le_trans hn (sorted_get hA hq hv hy))
      · obtain ⟨q, hq, hy⟩ := mem_drop_get hy
        exact sorted_get hB (by omega) hx hy
theorem swap_up (S T : List Triple) (x y : Triple) : swapL (S ++ (x :: y :: T)) S.length (S.length + 1) = S ++ (y :: x :: T) := by
  apply List.ext_getElem?
  intro k
  rw [swapL_get _ _ _ _ (by simp) (by simp)]
  by_cases e1 : k = S.length + 1
  · subst e1
    rw [if_pos rfl, List.getElem?_append_right (by omega), List.getElem?_append_right (by omega)]
    simp
  · rw [if_neg e1]
    by_cases e2 : k = S.length
    · subst e2
      rw [if_pos rfl, List.getElem?_append_right (by omega), List.getElem?_append_right (by omega)]
      simp
    · rw [if_neg e2]
      by_cases e3 : k < S.length
      · rw [List.getElem?_append_left e3, List.getElem?_append_left e3]
      · rw [List.getElem?_append_right (by omega), List.getElem?_append_right (by omega)]
        obtain ⟨d, hd⟩ : ∃ d, k - S.length = d + 2 := ⟨k - S.length - 2, by omega⟩
        rw [hd]
        simp
/-- Where elements of the two rows lie. -/
theorem at_A {P A B Q : List Triple} {k : Nat} (h : k < A.length) : (P ++ (A ++ (B ++ Q)))[P.length + k]? = A[k]? := by
  rw [List.getElem?_append_right (by omega), Nat.add_sub_cancel_left, List.getElem?_append_left h]
theorem at_B {P A B Q : List Triple} {k : Nat} (h : k < B.length) : (P ++ (A ++ (B ++ Q)))[P.length + A.length + k]? = B[k]? := by
  rw [List.getElem?_append_right (by omega), List.getElem?_append_right (by omega), List.getElem?_append_left (by omega)]
  congr 1
  omega
end Go.Proofs.YtmcoloapiiakbaaGreatDoor.SortW
/-
  slices.symMergeCmpFunc, walked: one element at the left, one at the right.
-/
set_option linter.unusedVariables false
set_option linter.unusedSimpArgs false
namespace Go.Proofs.YtmcoloapiiakbaaGreatDoor.SortW
open Go.RowKit Go.Lib Go.Proofs.YtmcoloapiiakbaaGreatDoor.B Go.Proofs.YtmcoloapiiakbaaGreatDoor.Rd Go.Proofs.YtmcoloapiiakbaaGreatDoor.Utf Go.Proofs.YtmcoloapiiakbaaGreatDoor.TermPure Go.Proofs.YtmcoloapiiakbaaGreatDoor.LinesPure Go.Proofs.YtmcoloapiiakbaaGreatDoor.Tx Go.Proofs.YtmcoloapiiakbaaGreatDoor.Env Go.Proofs.YtmcoloapiiakbaaGreatDoor.Tri Go.Proofs.YtmcoloapiiakbaaGreatDoor.SortP Go.Proofs.YtmcoloapiiakbaaGreatDoor.Print Go.Proofs.YtmcoloapiiakbaaGreatDoor.Cmp Go.Proofs.YtmcoloapiiakbaaGreatDoor.Long

theorem SR.at {W w : World} {g : Nat} {l : List Triple} (h : SR W g l w) {q : Nat} {t : Triple} (hq : l[q]? = some t) : C9 w g (q * 9) t := by
  obtain ⟨h1, rfl⟩ := List.getElem?_eq_some_iff.1 hq
  exact h.cells q h1
set_option maxHeartbeats 12800000 in
set_option maxRecDepth 100000 in
theorem sym_left (P B Q : List Triple) (x : Triple) (L : Nat) (hL : (P ++ ([x] ++ (B ++ Q))).length = L) (hLs : L ≤ 140737488355328) (a m b cap : Nat) (ha : a = P.length) (hm : m = a + 1) (hb : b = m + B.length) (hB : Sorted' B) (hsx : SmallT x) (hsm : ∀ t ∈ B, SmallT t) (g : Nat) (W w : World)
    (hS : SR W g (P ++ ([x] ++ (B ++ Q))) w) :
    Calls Tryz.prog 100 #[.slice (some ⟨g, 0, none⟩) L cap, .int .i64 a, .int .i64 m, .int .i64 b, cmpV] w fun e w' => e = .returned (.tuple #[]) ∧ ∃ R, R.Perm ([x] ++ B) ∧ Sorted' R ∧ SR W g (P ++ (R ++ Q)) w' := by
  have hlen := hL
  simp only [List.length_append, List.length_singleton] at hlen
  have hbL : b ≤ L := by omega
  have hmb : m ≤ b := by omega
  have ham : a < m := by omega
  have HA := Lib.hid (show a = P.length ∧ m = P.length + 1 ∧ b = m + B.length from ⟨ha, by omega, hb⟩)
  have HBs := Lib.hid hB
  have HSm := Lib.hid hsm
  have HSx := Lib.hid hsx
  have HS0 := Lib.hid hS
  have w0 : IntKind.i64.wrap ((m : Int) - (a : Int)) = 1 := by rw [IntKind.wrap_i64]; omega
  clear hS hL hlen ha hb hB hsx hsm hm
  unfold cmpV
  go_enter Tryz.func100, Tryz.ntmps100
  go_wp2
  go_loopw [10, 11] (fun vi vj wr => ∃ i j : Nat, vi = .int .i64 i ∧ vj = .int .i64 j ∧ m ≤ i ∧ i ≤ j ∧ j ≤ b ∧ Hid ((i = m ∨ ∃ y, B[i - 1 - m]? = some y ∧ ltT y x) ∧ (j = b ∨ ∃ y, B[j - m]? = some y ∧ ¬ ltT y x) ∧ SR W g (P ++ ([x] ++ (B ++ Q))) wr)) (fun vi vj _ => (intOf vj).toNat - (intOf vi).toNat)
  case atStart => exact ⟨m, b, rfl, rfl, by omega, by omega, by omega, Lib.hid ⟨.inl rfl, .inl rfl, HS0.out⟩⟩
  case round =>
    obtain ⟨i, j, rfl, rfl, hmi, hij, hjb, HR⟩ := hrel
    clear HS0
    by_cases hlt : i < j
    · have hd : decide (i < j) = true := decide_eq_true hlt
      obtain ⟨h, hh⟩ : ∃ h, h = (i + j) / 2 := ⟨_, rfl⟩
      have hq : ((i : Int) + (j : Int)) / 2 = (h : Int) := by omega
      have hhb : (h : Int) < (L : Int) := by omega
      have hab : (a : Int) < (L : Int) := by omega
      have hmh : m ≤ h := by omega
      have hih : i ≤ h := by omega
      have hhj : h < j := by omega
      clear hh
      have hBl : h - m < B.length := by have := HA.out.2.2; omega
      obtain ⟨y, hy⟩ : ∃ y, B[h - m]? = some y := ⟨_, List.getElem?_eq_getElem hBl⟩
      have hrow : (P ++ ([x] ++ (B ++ Q)))[h]? = some y := by
        rw [← hy, ← at_B (P := P) (A := [x]) (B := B) (Q := Q) hBl]
        congr 1
        have := HA.out.2.1
        simp
        omega
      have hrow0 : (P ++ ([x] ++ (B ++ Q)))[a]? = some x := by
        have := at_A (P := P) (A := [x]) (B := B) (Q := Q) (k := 0) (by simp)
        rw [HA.out.1]
        rw [Nat.add_zero] at this
        rw [this]
        rfl
      have hch := HR.out.2.2.at hrow
      have hca := HR.out.2.2.at hrow0
      have hgl := hch.lt
      have HBk : Hid (∀ w2, Below wr.heap.size wr w2 → SR W g (P ++ ([x] ++ (B ++ Q))) w2) := Lib.hid (fun w2 hb => HR.out.2.2.below hgl hb)
      have HC := Lib.hid (fun w => cmp_calls y x (HSm.out y (List.mem_of_getElem? hy)) HSx.out w)
      have HLt : Hid (cmpT y x < 0 ↔ ltT y x) := Lib.hid Iff.rfl
      have HY := Lib.hid hy
      have HI := Lib.hid HR.out.1
      have HJ := Lib.hid HR.out.2.1
      obtain ⟨v, hv⟩ : ∃ v, v = cmpT y x := ⟨_, rfl⟩
      rw [← hv] at HC HLt
      clear hv hy hrow hrow0 hBl HR
      by_cases hvn : v < 0
      · have hvd : decide (v < 0) = true := decide_eq_true hvn
        have HYL : Hid (ltT y x) := Lib.hid (HLt.out.1 hvn)
        have HI2 : Hid (h + 1 = m ∨ ∃ y, B[h + 1 - 1 - m]? = some y ∧ ltT y x) := Lib.hid (.inr ⟨y, by rw [show h + 1 - 1 - m = h - m by omega]; exact HY.out, HYL.out⟩)
        clear hvn HLt HY HYL HI
        obtain ⟨⟨sk', sx', se'⟩, ⟨pk', px', pe'⟩, ⟨ok', ox', oe'⟩⟩ := y
        obtain ⟨⟨sk, sx, se⟩, ⟨pk, px, pe⟩, ⟨ok, ox, oe⟩⟩ := x
        have y0 := fun p => (hch.bel p).c0
        have y1 := fun p => (hch.bel p).c1
        have y2 := fun p => (hch.bel p).c2
        have y3 := fun p => (hch.bel p).c3
        have y4 := fun p => (hch.bel p).c4
        have y5 := fun p => (hch.bel p).c5
        have y6 := fun p => (hch.bel p).c6
        have y7 := fun p => (hch.bel p).c7
        have y8 := fun p => (hch.bel p).c8
        have x0 := fun p => (hca.bel p).c0
        have x1 := fun p => (hca.bel p).c1
        have x2 := fun p => (hca.bel p).c2
        have x3 := fun p => (hca.bel p).c3
        have x4 := fun p => (hca.bel p).c4
        have x5 := fun p => (hca.bel p).c5
        have x6 := fun p => (hca.bel p).c6
        have x7 := fun p => (hca.bel p).c7
        have x8 := fun p => (hca.bel p).c8
        dsimp only at y0 y1 y2 y3 y4 y5 y6 y7 y8 x0 x1 x2 x3 x4 x5 x6 x7 x8
        unfold Ref5.tripleV at HC
        dsimp only at HC
        go_upto_region 5 with fail
        refine QT.region_all (by kernel_rfl) (by kernel_rfl) ?_
        iterate 9 (go_big_quiet_step (fail))
        go_big_quiet_step (exact QT.Bel.call _ (HC.out _))
        iterate 1 (go_big_quiet_step (fail))
        refine wpQuiet_nil ?_
        intro w2 hw'
        obtain ⟨⟨_, hb⟩, rfl⟩ := hw'
        have HS2 := Lib.hid (HBk.out w2 hb)
        clear hb y0 y1 y2 y3 y4 y5 y6 y7 y8 x0 x1 x2 x3 x4 x5 x6 x7 x8 hch hca
        go_wp2
        go_roundw
        case rel => exact ⟨h + 1, j, by go_num, rfl, by omega, by omega, hjb, Lib.hid ⟨HI2.out, HJ.out, HS2.out⟩⟩
        case measure => simp [intOf]; omega
      · have hvd : decide (v < 0) = false := decide_eq_false hvn
        have HYL : Hid (¬ ltT y x) := Lib.hid (fun hl => hvn (HLt.out.2 hl))
        have HJ2 : Hid (h = b ∨ ∃ y, B[h - m]? = some y ∧ ¬ ltT y x) := Lib.hid (.inr ⟨y, HY.out, HYL.out⟩)
        clear hvn HLt HY HYL HJ
        obtain ⟨⟨sk', sx', se'⟩, ⟨pk', px', pe'⟩, ⟨ok', ox', oe'⟩⟩ := y
        obtain ⟨⟨sk, sx, se⟩, ⟨pk, px, pe⟩, ⟨ok, ox, oe⟩⟩ := x
        have y0 := fun p => (hch.bel p).c0
        have y1 := fun p => (hch.bel p).c1
        have y2 := fun p => (hch.bel p).c2
        have y3 := fun p => (hch.bel p).c3
        have y4 := fun p => (hch.bel p).c4
        have y5 := fun p => (hch.bel p).c5
        have y6 := fun p => (hch.bel p).c6
        have y7 := fun p => (hch.bel p).c7
        have y8 := fun p => (hch.bel p).c8
        have x0 := fun p => (hca.bel p).c0
        have x1 := fun p => (hca.bel p).c1
        have x2 := fun p => (hca.bel p).c2
        have x3 := fun p => (hca.bel p).c3
        have x4 := fun p => (hca.bel p).c4
        have x5 := fun p => (hca.bel p).c5
        have x6 := fun p => (hca.bel p).c6
        have x7 := fun p => (hca.bel p).c7
        have x8 := fun p => (hca.bel p).c8
        dsimp only at y0 y1 y2 y3 y4 y5 y6 y7 y8 x0 x1 x2 x3 x4 x5 x6 x7 x8
        unfold Ref5.tripleV at HC
        dsimp only at HC
        go_upto_region 5 with fail
        refine QT.region_all (by kernel_rfl) (by kernel_rfl) ?_
        iterate 9 (go_big_quiet_step (fail))
        go_big_quiet_step (exact QT.Bel.call _ (HC.out _))
        iterate 1 (go_big_quiet_step (fail))
        refine wpQuiet_nil ?_
        intro w2 hw'
        obtain ⟨⟨_, hb⟩, rfl⟩ := hw'
        have HS2 := Lib.hid (HBk.out w2 hb)
        clear hb y0 y1 y2 y3 y4 y5 y6 y7 y8 x0 x1 x2 x3 x4 x5 x6 x7 x8 hch hca
        go_wp2
        go_roundw
        case rel => exact ⟨i, h, rfl, by go_num, hmi, by omega, by omega, Lib.hid ⟨HI.out, HJ2.out, HS2.out⟩⟩
        case measure => simp [intOf]; omega
    · have hd : decide (i < j) = false := decide_eq_false hlt
      obtain rfl : i = j := by omega
      obtain ⟨n, hn⟩ : ∃ n, n = i - m := ⟨_, rfl⟩
      obtain ⟨i1, hi1⟩ : ∃ i1, i1 + 1 = i := ⟨i - 1, by omega⟩
      have wi : IntKind.i64.wrap ((i : Int) - 1) = (i1 : Int) := by rw [IntKind.wrap_i64]; omega
      have HSorted : Hid (Sorted' (B.take n ++ x :: B.drop n) ∧ (B.take n ++ x :: B.drop n).Perm ([x] ++ B) ∧ n ≤ B.length) := Lib.hid (by
        obtain ⟨h1, h2, _⟩ := HR.out
        refine ⟨one_in HBs.out ?_ ?_, one_perm B x n, by have := HA.out.2.2; omega⟩
        · rcases h1 with h1 | ⟨y, hy, hl⟩
          · left; omega
          · right; exact ⟨y, by rw [← hy]; congr 1; omega, ltT_asymm hl⟩
        · rcases h2 with h2 | ⟨y, hy, hl⟩
          · left; have := HA.out.2.2; omega
          · right; exact ⟨y, by rw [← hy]; congr 1, hl⟩)
      have HR0 : Hid (SR W g (P ++ (B.take 0 ++ (x :: (B.drop 0 ++ Q)))) wr) := Lib.hid HR.out.2.2
      have hni : n + m = i := by omega
      clear HR hn
      go_wp2
      go_loopw [13] (fun vk wr => ∃ k c : Nat, vk = .int .i64 k ∧ k = a + c ∧ c ≤ n ∧ Hid (SR W g (P ++ (B.take c ++ (x :: (B.drop c ++ Q)))) wr)) (fun vk _ => n + a - (intOf vk).toNat)
      case atStart => exact ⟨a, 0, rfl, by omega, by omega, HR0⟩
      case round =>
        obtain ⟨k, c, rfl, hkc, hcn, HR⟩ := hrel
        have HKC := Lib.hid hkc
        clear HR0
        by_cases hck : c < n
        · have hd2 : decide (k < i1) = true := decide_eq_true (by omega)
          have hd3 : (k : Int) < (i1 : Int) := by omega
          obtain ⟨k1, hk1⟩ : ∃ k1, k1 = k + 1 := ⟨_, rfl⟩
          have wk : IntKind.i64.wrap ((k : Int) + 1) = (k1 : Int) := by rw [IntKind.wrap_i64]; omega
          have hkL : (k : Int) < (L : Int) := by omega
          have hk1L : (k1 : Int) < (L : Int) := by omega
          have hcB : c < B.length := Nat.lt_of_lt_of_le hck HSorted.out.2.2
          obtain ⟨y, hy⟩ : ∃ y, y = B[c] := ⟨_, rfl⟩
          have hdrop : B.drop c = y :: B.drop (c + 1) := by rw [hy]; exact List.drop_eq_getElem_cons hcB
          have htake : B.take (c + 1) = B.take c ++ [y] := by rw [hy, List.take_succ_eq_append_getElem hcB]
          have hlenT : (P ++ B.take c).length = k := by rw [List.length_append, List.length_take]; have := HA.out.1; omega
          have HS9 : SR W g ((P ++ B.take c) ++ (x :: y :: (B.drop (c + 1) ++ Q))) wr := by
            have := HR.out
            rw [hdrop] at this
            rw [List.append_assoc]
            exact this
          have gx : ((P ++ B.take c) ++ (x :: y :: (B.drop (c + 1) ++ Q)))[k]? = some x := by rw [List.getElem?_append_right (by omega), hlenT]; simp
          have gy : ((P ++ B.take c) ++ (x :: y :: (B.drop (c + 1) ++ Q)))[k1]? = some y := by rw [List.getElem?_append_right (by omega), hlenT, show k1 - k = 1 by omega]; simp
          obtain ⟨lx, ex⟩ := List.getElem?_eq_some_iff.1 gx
          obtain ⟨ly, ey⟩ := List.getElem?_eq_some_iff.1 gy
          have HSwF : Hid (SR W g (P ++ (B.take (c + 1) ++ (x :: (B.drop (c + 1) ++ Q)))) (put9 (put9 wr g (k * 9) y) g (k1 * 9) x).drew) := Lib.hid (by
            have hSw := HS9.swap k k1 lx ly
            rw [ex, ey, show k1 = (P ++ B.take c).length + 1 by omega, ← hlenT, swap_up] at hSw
            rw [hlenT] at hSw
            have h2 := hSw.drew
            rw [htake]
            rw [← hk1] at h2
            simpa [List.append_assoc] using h2)
          have hcx := HS9.at gx
          have hcy := HS9.at gy
          have fx := HS9.free9 k lx
          have fy := HS9.free9 k1 ly
          have h9 : k * 9 + 9 ≤ k1 * 9 := by omega
          have HK1 := Lib.hid hk1
          clear gx gy lx ly ex ey HS9 hlenT htake hdrop hy hcB
          obtain ⟨⟨sk', sx', se'⟩, ⟨pk', px', pe'⟩, ⟨ok', ox', oe'⟩⟩ := y
          obtain ⟨⟨sk, sx, se⟩, ⟨pk, px, pe⟩, ⟨ok, ox, oe⟩⟩ := x
          unfold put9 at HSwF
          dsimp only at HSwF
          obtain ⟨x0, x1, x2, x3, x4, x5, x6, x7, x8⟩ := hcx
          obtain ⟨y0, y1, y2, y3, y4, y5, y6, y7, y8⟩ := hcy
          obtain ⟨f0, f1, f2, f3, f4, f5, f6, f7, f8⟩ := fx
          obtain ⟨e0, e1, e2, e3, e4, e5, e6, e7, e8⟩ := fy
          dsimp only at x0 x1 x2 x3 x4 x5 x6 x7 x8 y0 y1 y2 y3 y4 y5 y6 y7 y8
          have D1 : ∀ e d, d < 9 → (k1 * 9 + e = k * 9 + d) = False := fun e d hd => eq_false (by omega)
          have D2 : ∀ d, d < 9 → (k1 * 9 = k * 9 + d) = False := fun d hd => eq_false (by omega)
          have D3 : ∀ e, (k1 * 9 + e = k * 9) = False := fun e => eq_false (by omega)
          have D4 : (k1 * 9 = k * 9) = False := eq_false (by omega)
          have D5 : ∀ e d, d < 9 → (k * 9 + d = k1 * 9 + e) = False := fun e d hd => eq_false (by omega)
          have D6 : ∀ d, d < 9 → (k * 9 + d = k1 * 9) = False := fun d hd => eq_false (by omega)
          have D7 : ∀ e, (k * 9 = k1 * 9 + e) = False := fun e => eq_false (by omega)
          have D8 : (k * 9 = k1 * 9) = False := eq_false (by omega)
          clear h9 hkc hk1
          go_upto_region 11 with fail
          go_big_region
          all_goals go_wp2
          go_roundw
          case rel => exact ⟨k1, c + 1, by go_num, by have := HKC.out; have := HK1.out; omega, by omega, HSwF⟩
          case measure => have := HKC.out; have := HK1.out; simp [intOf]; omega
        · have hd2 : decide (k < i1) = false := decide_eq_false (by have h1 := HA.out.1; have h2 := HA.out.2.1; omega)
          have hd3 : ¬ ((k : Int) < (i1 : Int)) := by have h1 := HA.out.1; have h2 := HA.out.2.1; omega
          obtain rfl : c = n := by omega
          clear hkc
          go_wp2
          ((try simp only [Exit.inBlock, Exit.then]); refine bodyPost_ret (results_none rfl _ _ _) rfl ?_)
          exact ⟨rfl, _, HSorted.out.2.1, HSorted.out.1, by rw [List.append_assoc]; exact HR.out⟩
end Go.Proofs.YtmcoloapiiakbaaGreatDoor.SortW
/-
  slices.symMergeCmpFunc, walked: one element at the right.
-/
set_option linter.unusedVariables false
set_option linter.unusedSimpArgs false
namespace Go.Proofs.YtmcoloapiiakbaaGreatDoor.SortW
open Go.RowKit Go.Lib Go.Proofs.YtmcoloapiiakbaaGreatDoor.B Go.Proofs.YtmcoloapiiakbaaGreatDoor.Rd Go.Proofs.YtmcoloapiiakbaaGreatDoor.Utf Go.Proofs.YtmcoloapiiakbaaGreatDoor.TermPure Go.Proofs.YtmcoloapiiakbaaGreatDoor.LinesPure Go.Proofs.YtmcoloapiiakbaaGreatDoor.Tx Go.Proofs.YtmcoloapiiakbaaGreatDoor.Env Go.Proofs.YtmcoloapiiakbaaGreatDoor.Tri Go.Proofs.YtmcoloapiiakbaaGreatDoor.SortP Go.Proofs.YtmcoloapiiakbaaGreatDoor.Print Go.Proofs.YtmcoloapiiakbaaGreatDoor.Cmp Go.Proofs.YtmcoloapiiakbaaGreatDoor.Long

set_option maxHeartbeats 12800000 in
set_option maxRecDepth 100000 in
theorem sym_right (P A Q : List Triple) (y : Triple) (L : Nat) (hL : (P ++ (A ++ ([y] ++ Q))).length = L) (hLs : L ≤ 140737488355328) (a m b cap : Nat) (ha : a = P.length) (hm : m = a + A.length) (hb : b = m + 1) (h2 : 2 ≤ A.length) (hA : Sorted' A) (hsx : SmallT y) (hsm : ∀ t ∈ A, SmallT t) (g : Nat) (W w : World)
    (hS : SR W g (P ++ (A ++ ([y] ++ Q))) w) :
    Calls Tryz.prog 100 #[.slice (some ⟨g, 0, none⟩) L cap, .int .i64 a, .int .i64 m, .int .i64 b, cmpV] w fun e w' => e = .returned (.tuple #[]) ∧ ∃ R, R.Perm (A ++ [y]) ∧ Sorted' R ∧ SR W g (P ++ (R ++ Q)) w' := by
  have hlen := hL
  simp only [List.length_append, List.length_singleton] at hlen
  have hmL : m < L := by omega
  have ham : a ≤ m := by omega
  have HA := Lib.hid (show a = P.length ∧ m = P.length + A.length ∧ b = m + 1 from ⟨ha, by omega, hb⟩)
  have HAs := Lib.hid hA
  have HSm := Lib.hid hsm
  have HSx := Lib.hid hsx
  have HS0 := Lib.hid hS
  obtain ⟨d0, hd0⟩ : ∃ d0, d0 = m - a := ⟨_, rfl⟩
  have w0 : IntKind.i64.wrap ((m : Int) - (a : Int)) = (d0 : Int) := by rw [IntKind.wrap_i64]; omega
  have w00 : ((d0 : Int) == 1) = false := by rw [beq_eq_false_iff_ne]; omega
  have w01 : IntKind.i64.wrap ((b : Int) - (m : Int)) = 1 := by rw [IntKind.wrap_i64]; omega
  clear hS hL hlen ha hb hA hsx hsm hm hd0 h2
  unfold cmpV
  go_enter Tryz.func100, Tryz.ntmps100
  go_wp2
  go_loopw [14, 15] (fun vi vj wr => ∃ i j : Nat, vi = .int .i64 i ∧ vj = .int .i64 j ∧ a ≤ i ∧ i ≤ j ∧ j ≤ m ∧ Hid ((i = a ∨ ∃ x, A[i - 1 - a]? = some x ∧ ¬ ltT y x) ∧ (j = m ∨ ∃ x, A[j - a]? = some x ∧ ltT y x) ∧ SR W g (P ++ (A ++ ([y] ++ Q))) wr)) (fun vi vj _ => (intOf vj).toNat - (intOf vi).toNat)
  case atStart => exact ⟨a, m, rfl, rfl, by omega, by omega, by omega, Lib.hid ⟨.inl rfl, .inl rfl, HS0.out⟩⟩
  case round =>
    obtain ⟨i, j, rfl, rfl, hmi, hij, hjb, HR⟩ := hrel
    clear HS0 w0 w00 w01
    by_cases hlt : i < j
    · have hd : decide (i < j) = true := decide_eq_true hlt
      obtain ⟨h, hh⟩ : ∃ h, h = (i + j) / 2 := ⟨_, rfl⟩
      have hq : ((i : Int) + (j : Int)) / 2 = (h : Int) := by omega
      have hhb : (h : Int) < (L : Int) := by omega
      have hab : (m : Int) < (L : Int) := by omega
      have hih : i ≤ h := by omega
      have hhj : h < j := by omega
      clear hh
      have hAl : h - a < A.length := by have h1 := HA.out.1; have h2 := HA.out.2.1; omega
      obtain ⟨x, hx⟩ : ∃ x, A[h - a]? = some x := ⟨_, List.getElem?_eq_getElem hAl⟩
      have hrow : (P ++ (A ++ ([y] ++ Q)))[h]? = some x := by
        rw [← hx, ← at_A (P := P) (A := A) (B := [y]) (Q := Q) hAl]
        congr 1
        have := HA.out.1
        omega
      have hrow0 : (P ++ (A ++ ([y] ++ Q)))[m]? = some y := by
        have := at_B (P := P) (A := A) (B := [y]) (Q := Q) (k := 0) (by simp)
        rw [HA.out.2.1]
        rw [Nat.add_zero] at this
        rw [this]
        rfl
      have hch := HR.out.2.2.at hrow
      have hcm := HR.out.2.2.at hrow0
      have hgl := hch.lt
      have HBk : Hid (∀ w2, Below wr.heap.size wr w2 → SR W g (P ++ (A ++ ([y] ++ Q))) w2) := Lib.hid (fun w2 hb => HR.out.2.2.below hgl hb)
      have HC := Lib.hid (fun w => cmp_calls y x HSx.out (HSm.out x (List.mem_of_getElem? hx)) w)
      have HLt : Hid (cmpT y x < 0 ↔ ltT y x) := Lib.hid Iff.rfl
      have HX := Lib.hid hx
      have HI := Lib.hid HR.out.1
      have HJ := Lib.hid HR.out.2.1
      obtain ⟨v, hv⟩ : ∃ v, v = cmpT y x := ⟨_, rfl⟩
      rw [← hv] at HC HLt
      clear hv hx hrow hrow0 hAl HR
      by_cases hvn : v < 0
      · have hvd : decide (v < 0) = true := decide_eq_true hvn
        have HYL : Hid (ltT y x) := Lib.hid (HLt.out.1 hvn)
        have HJ2 : Hid (h = m ∨ ∃ x, A[h - a]? = some x ∧ ltT y x) := Lib.hid (.inr ⟨x, HX.out, HYL.out⟩)
        clear hvn HLt HX HYL HJ
        obtain ⟨⟨sk', sx', se'⟩, ⟨pk', px', pe'⟩, ⟨ok', ox', oe'⟩⟩ := y
        obtain ⟨⟨sk, sx, se⟩, ⟨pk, px, pe⟩, ⟨ok, ox, oe⟩⟩ := x
        have y0 := fun p => (hcm.bel p).c0
        have y1 := fun p => (hcm.bel p).c1
        have y2 := fun p => (hcm.bel p).c2
        have y3 := fun p => (hcm.bel p).c3
        have y4 := fun p => (hcm.bel p).c4
        have y5 := fun p => (hcm.bel p).c5
        have y6 := fun p => (hcm.bel p).c6
        have y7 := fun p => (hcm.bel p).c7
        have y8 := fun p => (hcm.bel p).c8
        have x0 := fun p => (hch.bel p).c0
        have x1 := fun p => (hch.bel p).c1
        have x2 := fun p => (hch.bel p).c2
        have x3 := fun p => (hch.bel p).c3
        have x4 := fun p => (hch.bel p).c4
        have x5 := fun p => (hch.bel p).c5
        have x6 := fun p => (hch.bel p).c6
        have x7 := fun p => (hch.bel p).c7
        have x8 := fun p => (hch.bel p).c8
        dsimp only at y0 y1 y2 y3 y4 y5 y6 y7 y8 x0 x1 x2 x3 x4 x5 x6 x7 x8
        unfold Ref5.tripleV at HC
        dsimp only at HC
        go_upto_region 17 with fail
        refine QT.region_all (by kernel_rfl) (by kernel_rfl) ?_
        iterate 9 (go_big_quiet_step (fail))
        go_big_quiet_step (exact QT.Bel.call _ (HC.out _))
        iterate 2 (go_big_quiet_step (fail))
        refine wpQuiet_nil ?_
        intro w2 hw'
        obtain ⟨⟨_, hb⟩, rfl⟩ := hw'
        have HS2 := Lib.hid (HBk.out w2 hb)
        clear hb y0 y1 y2 y3 y4 y5 y6 y7 y8 x0 x1 x2 x3 x4 x5 x6 x7 x8 hch hcm
        go_wp2
        go_roundw
        case rel => exact ⟨i, h, rfl, by go_num, hmi, by omega, by omega, Lib.hid ⟨HI.out, HJ2.out, HS2.out⟩⟩
        case measure => simp [intOf]; omega
      · have hvd : decide (v < 0) = false := decide_eq_false hvn
        have HYL : Hid (¬ ltT y x) := Lib.hid (fun hl => hvn (HLt.out.2 hl))
        have HI2 : Hid (h + 1 = a ∨ ∃ x, A[h + 1 - 1 - a]? = some x ∧ ¬ ltT y x) := Lib.hid (.inr ⟨x, by rw [show h + 1 - 1 - a = h - a by omega]; exact HX.out, HYL.out⟩)
        clear hvn HLt HX HYL HI
        obtain ⟨⟨sk', sx', se'⟩, ⟨pk', px', pe'⟩, ⟨ok', ox', oe'⟩⟩ := y
        obtain ⟨⟨sk, sx, se⟩, ⟨pk, px, pe⟩, ⟨ok, ox, oe⟩⟩ := x
        have y0 := fun p => (hcm.bel p).c0
        have y1 := fun p => (hcm.bel p).c1
        have y2 := fun p => (hcm.bel p).c2
        have y3 := fun p => (hcm.bel p).c3
        have y4 := fun p => (hcm.bel p).c4
        have y5 := fun p => (hcm.bel p).c5
        have y6 := fun p => (hcm.bel p).c6
        have y7 := fun p => (hcm.bel p).c7
        have y8 := fun p => (hcm.bel p).c8
        have x0 := fun p => (hch.bel p).c0
        have x1 := fun p => (hch.bel p).c1
        have x2 := fun p => (hch.bel p).c2
        have x3 := fun p => (hch.bel p).c3
        have x4 := fun p => (hch.bel p).c4
        have x5 := fun p => (hch.bel p).c5
        have x6 := fun p => (hch.bel p).c6
        have x7 := fun p => (hch.bel p).c7
        have x8 := fun p => (hch.bel p).c8
        dsimp only at y0 y1 y2 y3 y4 y5 y6 y7 y8 x0 x1 x2 x3 x4 x5 x6 x7 x8
        unfold Ref5.tripleV at HC
        dsimp only at HC
        go_upto_region 17 with fail
        refine QT.region_all (by kernel_rfl) (by kernel_rfl) ?_
        iterate 9 (go_big_quiet_step (fail))
        go_big_quiet_step (exact QT.Bel.call _ (HC.out _))
        iterate 2 (go_big_quiet_step (fail))
        refine wpQuiet_nil ?_
        intro w2 hw'
        obtain ⟨⟨_, hb⟩, rfl⟩ := hw'
        have HS2 := Lib.hid (HBk.out w2 hb)
        clear hb y0 y1 y2 y3 y4 y5 y6 y7 y8 x0 x1 x2 x3 x4 x5 x6 x7 x8 hch hcm
        go_wp2
        go_roundw
        case rel => exact ⟨h + 1, j, by go_num, rfl, by omega, by omega, hjb, Lib.hid ⟨HI2.out, HJ.out, HS2.out⟩⟩
        case measure => simp [intOf]; omega
    · have hd : decide (i < j) = false := decide_eq_false hlt
      obtain rfl : i = j := by omega
      obtain ⟨n, hn⟩ : ∃ n, n = i - a := ⟨_, rfl⟩
      have HSorted : Hid (Sorted' (A.take n ++ y :: A.drop n) ∧ (A.take n ++ y :: A.drop n).Perm (A ++ [y]) ∧ n ≤ A.length) := Lib.hid (by
        obtain ⟨h1, h2, _⟩ := HR.out
        have h3 := HA.out.1
        have h4 := HA.out.2.1
        refine ⟨one_in HAs.out ?_ ?_, (one_perm A y n).trans List.perm_append_comm, by omega⟩
        · rcases h1 with h1 | ⟨x, hx, hl⟩
          · left; omega
          · right; exact ⟨x, by rw [← hx]; congr 1; omega, hl⟩
        · rcases h2 with h2 | ⟨x, hx, hl⟩
          · left; omega
          · right; exact ⟨x, by rw [← hx]; congr 1, ltT_asymm hl⟩)
      have HR0 : Hid (SR W g (P ++ (A.take A.length ++ (y :: (A.drop A.length ++ Q)))) wr) := Lib.hid (by
        rw [List.take_length, List.drop_length]
        exact HR.out.2.2)
      have hni : n + a = i := by omega
      obtain ⟨nA, hnA⟩ : ∃ nA, nA = A.length := ⟨_, rfl⟩
      have hmA : m = a + nA := by have h3 := HA.out.1; have h4 := HA.out.2.1; omega
      have HMA := Lib.hid hmA
      have HNA := Lib.hid hnA
      have hmn : n ≤ nA := by rw [hnA]; exact HSorted.out.2.2
      have hma : a ≤ m := ham
      rw [← hnA] at HR0
      clear HR hn hnA hmA
      go_wp2
      go_loopw [17] (fun vk wr => ∃ k c : Nat, vk = .int .i64 k ∧ k ≤ m ∧ Hid (k = a + c) ∧ n ≤ c ∧ c ≤ nA ∧ Hid (SR W g (P ++ (A.take c ++ (y :: (A.drop c ++ Q)))) wr)) (fun vk _ => (intOf vk).toNat - a)
      case atStart => exact ⟨m, nA, rfl, by omega, HMA, by omega, by omega, HR0⟩
      case round =>
        obtain ⟨k, c, rfl, hkm, HKC, hcn, hcA, HR⟩ := hrel
        clear HR0
        by_cases hck : n < c
        · have hik : i < k := by have := HKC.out; omega
          have hd2 : decide (i < k) = true := decide_eq_true hik
          obtain ⟨k1, hk1⟩ : ∃ k1, k1 + 1 = k := ⟨k - 1, by omega⟩
          obtain ⟨c1, hc1⟩ : ∃ c1, c1 + 1 = c := ⟨c - 1, by omega⟩
          have wk : IntKind.i64.wrap ((k : Int) - 1) = (k1 : Int) := by rw [IntKind.wrap_i64]; omega
          have hkL : (k : Int) < (L : Int) := by omega
          have hk1L : (k1 : Int) < (L : Int) := by omega
          have hcB : c1 < A.length := by have := HNA.out; omega
          obtain ⟨x, hx⟩ : ∃ x, x = A[c1] := ⟨_, rfl⟩
          have hdrop : A.drop c1 = x :: A.drop c := by rw [hx, ← hc1]; exact List.drop_eq_getElem_cons hcB
          have htake : A.take c = A.take c1 ++ [x] := by rw [hx, ← hc1, List.take_succ_eq_append_getElem hcB]
          have hlenT : (P ++ A.take c1).length = k1 := by rw [List.length_append, List.length_take]; have := HA.out.1; have := HKC.out; omega
          have HS9 : SR W g ((P ++ A.take c1) ++ (x :: y :: (A.drop c ++ Q))) wr := by
            have := HR.out
            rw [htake] at this
            simpa [List.append_assoc] using this
          have gx : ((P ++ A.take c1) ++ (x :: y :: (A.drop c ++ Q)))[k1]? = some x := by rw [List.getElem?_append_right (by omega), hlenT]; simp
          have gy : ((P ++ A.take c1) ++ (x :: y :: (A.drop c ++ Q)))[k]? = some y := by rw [List.getElem?_append_right (by omega), hlenT, show k - k1 = 1 by omega]; simp
          obtain ⟨lx, ex⟩ := List.getElem?_eq_some_iff.1 gx
          obtain ⟨ly, ey⟩ := List.getElem?_eq_some_iff.1 gy
          have HSwF : Hid (SR W g (P ++ (A.take c1 ++ (y :: (A.drop c1 ++ Q)))) (put9 (put9 wr g (k * 9) x) g (k1 * 9) y).drew) := Lib.hid (by
            have hSw := HS9.swap k k1 ly lx
            rw [ex, ey, show k = (P ++ A.take c1).length + 1 by omega, ← hlenT, swap_adj] at hSw
            rw [hlenT, hk1] at hSw
            have h2 := hSw.drew
            rw [hdrop]
            simpa [List.append_assoc] using h2)
          have hcx := HS9.at gx
          have hcy := HS9.at gy
          have fx := HS9.free9 k1 lx
          have fy := HS9.free9 k ly
          have h9 : k1 * 9 + 9 ≤ k * 9 := by omega
          have HK1 := Lib.hid hk1
          have HC1 := Lib.hid hc1
          have HKC2 : Hid (k1 = a + c1) := Lib.hid (by have := HKC.out; omega)
          have hb1 : k1 < k := by omega
          have hb2 : n ≤ c1 := by omega
          have hb3 : c1 ≤ nA := by omega
          have hb4 : a < k := by omega
          clear gx gy lx ly ex ey HS9 hlenT htake hdrop hx hcB hc1
          obtain ⟨⟨sk', sx', se'⟩, ⟨pk', px', pe'⟩, ⟨ok', ox', oe'⟩⟩ := y
          obtain ⟨⟨sk, sx, se⟩, ⟨pk, px, pe⟩, ⟨ok, ox, oe⟩⟩ := x
          unfold put9 at HSwF
          dsimp only at HSwF
          obtain ⟨x0, x1, x2, x3, x4, x5, x6, x7, x8⟩ := hcx
          obtain ⟨y0, y1, y2, y3, y4, y5, y6, y7, y8⟩ := hcy
          obtain ⟨f0, f1, f2, f3, f4, f5, f6, f7, f8⟩ := fx
          obtain ⟨e0, e1, e2, e3, e4, e5, e6, e7, e8⟩ := fy
          dsimp only at x0 x1 x2 x3 x4 x5 x6 x7 x8 y0 y1 y2 y3 y4 y5 y6 y7 y8
          have D1 : ∀ e d, d < 9 → (k * 9 + e = k1 * 9 + d) = False := fun e d hd => eq_false (by omega)
          have D2 : ∀ d, d < 9 → (k * 9 = k1 * 9 + d) = False := fun d hd => eq_false (by omega)
          have D3 : ∀ e, (k * 9 + e = k1 * 9) = False := fun e => eq_false (by omega)
          have D4 : (k * 9 = k1 * 9) = False := eq_false (by omega)
          have D5 : ∀ e d, d < 9 → (k1 * 9 + d = k * 9 + e) = False := fun e d hd => eq_false (by omega)
          have D6 : ∀ d, d < 9 → (k1 * 9 + d = k * 9) = False := fun d hd => eq_false (by omega)
          have D7 : ∀ e, (k1 * 9 = k * 9 + e) = False := fun e => eq_false (by omega)
          have D8 : (k1 * 9 = k * 9) = False := eq_false (by omega)
          clear h9 hk1
          go_upto_region 23 with fail
          go_big_region
          all_goals go_wp2
          go_roundw
          case rel => exact ⟨k1, c1, by go_num, by omega, HKC2, hb2, hb3, HSwF⟩
          case measure => simp [intOf]; omega
        · have hki : k = i := by have := HKC.out; omega
          have hd2 : decide (i < k) = false := decide_eq_false (by omega)
          have hcn2 : c = n := by omega
          have HR9 : Hid (SR W g (P ++ ((A.take n ++ y :: A.drop n) ++ Q)) wr) := Lib.hid (by rw [← hcn2, List.append_assoc]; exact HR.out)
          clear hki hcn2
          go_wp2
          ((try simp only [Exit.inBlock, Exit.then]); refine bodyPost_ret (results_none rfl _ _ _) rfl ?_)
          exact ⟨rfl, _, HSorted.out.2.1, HSorted.out.1, HR9.out⟩
end Go.Proofs.YtmcoloapiiakbaaGreatDoor.SortW
