/-
  What lines.One answers.
-/
import Derived.Test.YtmcoloapiiakbaaGreatDoorPrgB
set_option linter.unusedVariables false
set_option linter.unusedSimpArgs false
namespace Go.Proofs.YtmcoloapiiakbaaGreatDoor.Prg
open Go.RowKit Go.Lib Go.Proofs.YtmcoloapiiakbaaGreatDoor.B Go.Proofs.YtmcoloapiiakbaaGreatDoor.Rd Go.Proofs.YtmcoloapiiakbaaGreatDoor.Utf Go.Proofs.YtmcoloapiiakbaaGreatDoor.TermPure Go.Proofs.YtmcoloapiiakbaaGreatDoor.LinesPure Go.Proofs.YtmcoloapiiakbaaGreatDoor.Tx Go.Proofs.YtmcoloapiiakbaaGreatDoor.Env Go.Proofs.YtmcoloapiiakbaaGreatDoor.Bld Go.Proofs.YtmcoloapiiakbaaGreatDoor.Tc
open Go.Proofs.YtmcoloapiiakbaaGreatDoor.Ref5 (termV Fits tripleV FitsT isTriple_eq two_zero zeroTr T9 oneV FitsO one_by lineEnd)

theorem T9.newA (w : World) (t : Triple) : T9 (w.alloc (.cells #[.int .i64 t.s.kind, .string (mkS t.s.text), .string (mkS t.s.extra), .int .i64 t.p.kind, .string (mkS t.p.text), .string (mkS t.p.extra), .int .i64 t.o.kind, .string (mkS t.o.text), .string (mkS t.o.extra)] 49)) w.heap.size t := by
  constructor <;> constructor
  all_goals first | (unfold World.cell?; dsimp only; rw [Kd.heap_new]; rfl) | (unfold World.frozen?; dsimp only; rw [Kd.heap_new]; rfl)
theorem T9.setS {W : World} {g : Nat} {a0 p0 o0 : Term} (h : T9 W g ⟨a0, p0, o0⟩) (a : Term) : T9 (((W.setCell ⟨g, 0, none⟩ (.int .i64 a.kind)).setCell ⟨g, 1, none⟩ (.string (mkS a.text))).setCell ⟨g, 2, none⟩ (.string (mkS a.extra))) g ⟨a, p0, o0⟩ :=
  ⟨h.s.set a, ((h.p.apart (by decide) (by decide) (by decide) _).apart (by decide) (by decide) (by decide) _).apart (by decide) (by decide) (by decide) _,
    ((h.o.apart (by decide) (by decide) (by decide) _).apart (by decide) (by decide) (by decide) _).apart (by decide) (by decide) (by decide) _⟩
theorem bel_seen {w0 w w' : World} {rb : Nat} (h : w.grownBy w' (some rb)) (hb : Below w0.heap.size w0 w) (hr : w0.heap.size ≤ rb) : Below w0.heap.size w0 w' :=
  ⟨h.os.trans hb.os, h.tape.trans hb.tape, h.output.trans hb.output, Nat.le_trans hb.size h.size, fun k hk => (h.block k (Nat.lt_of_lt_of_le hk hb.size) (by simp; omega)).trans (hb.block k hk)⟩
theorem end_no (t : Triple) (st : Option (List UInt8)) (h : ((dot st).map blanks).any over = false) : lineEnd t st = none := by
  cases st with
  | none => rfl
  | some r =>
    unfold lineEnd
    dsimp only
    apply if_neg
    rintro ⟨h1, h2, _⟩
    unfold dot at h
    dsimp only at h
    rw [if_pos h1] at h
    have h' : over (blanks (r.drop 1)) = false := h
    rw [h2] at h'
    cases h'
theorem end_yes (t : Triple) (st : Option (List UInt8)) (h : ((dot st).map blanks).any over = true) : st ≠ none ∧ lineEnd t st = if isTriple t = true then some (some t) else none := by
  cases st with
  | none => cases h
  | some r =>
    refine ⟨by simp, ?_⟩
    unfold dot at h
    dsimp only at h
    split at h
    · rename_i h1
      have h2 : over (blanks (r.drop 1)) = true := h
      unfold lineEnd
      dsimp only
      rw [h1, h2]
      simp
    · cases h
/-- So many terms have been read. -/
def Chain (st0 : Option (List UInt8)) (k : Nat) (a p o : Term) (st : Option (List UInt8)) : Prop :=
  (k = 0 ∧ st = st0) ∨ (k = 1 ∧ Ref5.Next false st0 a st ∧ (st ≠ none → FitsX a)) ∨
  (k = 2 ∧ ∃ s1, Ref5.Next false st0 a s1 ∧ Ref5.Next false s1 p st ∧ (st ≠ none → FitsX a ∧ FitsX p)) ∨
  (k = 3 ∧ ∃ s1 s2, Ref5.Next false st0 a s1 ∧ Ref5.Next false s1 p s2 ∧ Ref5.Next false s2 o st ∧ (st ≠ none → FitsX a ∧ FitsX p ∧ FitsX o))
theorem next_none {t : Term} {st st' : Option (List UInt8)} (h : Ref5.Next false st t st') (hn : st' ≠ none) : st ≠ none := by
  intro e
  subst e
  exact hn h
set_option maxRecDepth 100000 in
set_option maxHeartbeats 12800000 in
theorem one_calls (s : List UInt8) (hs : s.length ≤ 1000000) (w : World) (he : Env w) :
    Calls Tryz.prog 10 #[.string (mkS s)] w fun e w' => (e = .returned (oneV (lineOf false s)) ∧ FitsO (lineOf false s)) ∧ Below w.heap.size w w' := by
  have hlow := he.low
  have HB0 := Lib.hid (bel_alloc (Below.refl w.heap.size w) (.cells #[.int .i64 0, .string (mkS []), .string (mkS []), .int .i64 0, .string (mkS []), .string (mkS []), .int .i64 0, .string (mkS []), .string (mkS [])] 25))
  have HT0 := Lib.hid (T9.new w zeroTr)
  have HE0 := Lib.hid (he.below HB0.out)
  clear he
  go_enter Tryz.func10, Tryz.ntmps10
  go_wp2_with fail
  refine (valid_calls s (by omega) _ HE0.out).mono ?_
  rintro e w1 ⟨rfl, hb1⟩
  have HB1 := Lib.hid (bel_step HB0.out hb1)
  have HT1 := Lib.hid (HT0.out.below hb1)
  have HE1 := Lib.hid (HE0.out.below hb1)
  have hz1 : w.heap.size < w1.heap.size := HT1.out.s.lt
  have hrb : lowB ≤ w1.heap.size := by omega
  have hn2 : ¬ w.heap.size = w1.heap.size := by omega
  clear hb1
  obtain ⟨v, hv⟩ : ∃ v, validD s = v := ⟨_, rfl⟩
  have HV := Lib.hid hv
  rw [hv]
  clear hv
  have HB2 := Lib.hid (bel_alloc HB1.out (.cells #[.string (mkS s), .bool (!v)] 48))
  have HT2 := Lib.hid (HT1.out.alloc (.cells #[.string (mkS s), .bool (!v)] 48))
  have HE2 := Lib.hid (HE1.out.below (bel_alloc (Below.refl _ _) (.cells #[.string (mkS s), .bool (!v)] 48)))
  obtain ⟨st0, HSt0, HP0⟩ : ∃ st0 : Option (List UInt8), Hid (st0 = if v = true then some s else none) ∧ Hid (PSt (w1.alloc (.cells #[.string (mkS s), .bool (!v)] 48)) (w1.alloc (.cells #[.string (mkS s), .bool (!v)] 48)) w1.heap.size st0) := by
    have hA := Ref5.At.new w1 s (!v) 48 (by omega)
    cases v with
    | true => exact ⟨some s, Lib.hid rfl, Lib.hid ⟨Step.refl hA, HV.out, hs⟩⟩
    | false => exact ⟨none, Lib.hid rfl, Lib.hid ⟨s, Step.refl hA⟩⟩
  go_wp2_with fail
  refine (blanks_any_calls _ _ st0 _ HP0.out).mono ?_
  rintro e w2 ⟨rfl, hp2, hg2⟩
  have HP2 := Lib.hid hp2
  have HT3 := Lib.hid (HT2.out.grown hg2 hn2)
  have HE3 := Lib.hid (HE2.out.grown hg2 hrb)
  have hz2 : w1.heap.size < w2.heap.size := by have := hg2.size; simp at this; omega
  clear hp2 hg2
  go_wp2_with fail
  refine (over_any_calls _ _ (st0.map blanks) _ HP2.out).mono ?_
  rintro e w3 ⟨rfl, rfl⟩
  cases ho : (st0.map blanks).any over with
  | true =>
    have HO : Hid (lineOf false s = some none) := Lib.hid (by
      have h0 := HSt0.out
      cases v with
      | false => rw [h0] at ho; cases ho
      | true =>
        rw [h0] at ho
        have ho' : over (blanks s) = true := ho
        rw [lineOf, HV.out, ho']
        rfl)
    clear ho
    obtain ⟨⟨p0, p1, p2, p9, p10, p11⟩, ⟨p3, p4, p5, p12, p13, p14⟩, ⟨p6, p7, p8, p15, p16, p17⟩⟩ := HT3.out
    simp only [Nat.zero_add, Nat.reduceAdd] at p1 p2 p4 p5 p7 p8 p10 p11 p13 p14 p16 p17
    dsimp only [zeroTr, zeroT] at *
    go_wp2
    refine bodyPost_ret (v := oneV (some none)) (by simp [results, Tryz.results10, go_sem, p0, p1, p2, p3, p4, p5, p6, p7, p8, oneV, tripleV, zeroTr, zeroT, mkS_nil]) rfl ?_
    rw [HO.out]
    refine ⟨⟨rfl, fun t ht => by cases ht⟩, ?_⟩
    exact (bel_set (bel_set (bel_set (bel_set (bel_set (bel_set (bel_set (bel_set (bel_set (bel_seen HP2.out.grown HB2.out (by omega)) (Nat.le_refl _) _) (Nat.le_refl _) _) (Nat.le_refl _) _) (Nat.le_refl _) _) (Nat.le_refl _) _) (Nat.le_refl _) _) (Nat.le_refl _) _) (Nat.le_refl _) _) (Nat.le_refl _) _)
  | false =>
    have HO := Lib.hid ho
    clear ho
    have hn6 : ¬ w2.heap.size = w1.heap.size := by omega
    have hn7 : ¬ w2.heap.size = w.heap.size := by omega
    have hn8 : ¬ w.heap.size = w2.heap.size := by omega
    have HU0 := Lib.hid (T9.newA w2 zeroTr)
    have HT4 := Lib.hid (HT3.out.alloc (.cells #[.int .i64 0, .string (mkS []), .string (mkS []), .int .i64 0, .string (mkS []), .string (mkS []), .int .i64 0, .string (mkS []), .string (mkS [])] 49))
    have HP3 := Lib.hid (HP2.out.alloc (.cells #[.int .i64 0, .string (mkS []), .string (mkS []), .int .i64 0, .string (mkS []), .string (mkS []), .int .i64 0, .string (mkS []), .string (mkS [])] 49))
    have HE4 := Lib.hid (HE3.out.below (bel_alloc (Below.refl _ _) (.cells #[.int .i64 0, .string (mkS []), .string (mkS []), .int .i64 0, .string (mkS []), .string (mkS []), .int .i64 0, .string (mkS []), .string (mkS [])] 49)))
    go_wp2
    go_loopw [20] (fun vi wr => ∃ (k : Nat) (a p o : Term) (st : Option (List UInt8)), k ≤ 3 ∧ vi = .int .i64 k ∧ Hid (PSt (w1.alloc (.cells #[.string (mkS s), .bool (!v)] 48)) wr w1.heap.size st) ∧ Hid (T9 wr w2.heap.size ⟨a, p, o⟩) ∧ Hid (T9 wr w.heap.size zeroTr) ∧ Hid (Env wr) ∧ Hid (Chain (st0.map blanks) k a p o st)) (fun vi _ => 3 - (intOf vi).toNat)
    case atStart => exact ⟨0, zeroT, zeroT, zeroT, st0.map blanks, by omega, rfl, HP3, HU0, HT4, HE4, Lib.hid (.inl ⟨rfl, rfl⟩)⟩
    case round =>
      obtain ⟨k, ⟨ak, ax, ay⟩, ⟨bk, bx, bY⟩, ⟨ck, cx, cy⟩, st, hk3, rfl, HP, HU, HT, HE, HC⟩ := hrel
      have hzr : w2.heap.size < wr.heap.size := HU.out.s.lt
      have hk : k = 0 ∨ k = 1 ∨ k = 2 ∨ k = 3 := by omega
      clear hk3 HB0 HT0 HE0 HT1 HE1 HT2 HE2 HP0 HP2 HT3 HE3 HU0 HT4 HP3 HE4
      rcases hk with rfl | rfl | rfl | rfl
      · go_wp2_with fail
        refine (term_any_calls (w1.alloc (.cells #[.string (mkS s), .bool (!v)] 48)) _ st _ HE.out hrb HP.out).mono ?_
        rintro e w4 ⟨⟨tk, tx, te⟩, st', ⟨rfl, hf⟩, ⟨hps, hg⟩, hnx⟩
        unfold termV
        have HP1 := Lib.hid hps
        have HU1 := Lib.hid (HU.out.grown hg hn6)
        have HT5 := Lib.hid (HT.out.grown hg hn2)
        have HE5 := Lib.hid (HE.out.grown hg hrb)
        have HN := Lib.hid hnx.next
        have HF := Lib.hid hf
        have hz4 : w2.heap.size < w4.heap.size := HU1.out.s.lt
        clear hps hg hnx hf
        obtain ⟨⟨u0, u1, u2, u9, u10, u11⟩, ⟨u3, u4, u5, u12, u13, u14⟩, ⟨u6, u7, u8, u15, u16, u17⟩⟩ := HU1.out
        simp only [Nat.zero_add, Nat.reduceAdd] at u1 u2 u4 u5 u7 u8 u10 u11 u13 u14 u16 u17
        dsimp only [zeroTr, zeroT] at *
        have HP6 := Lib.hid ((((HP1.out.other (g := w2.heap.size) (j := 0) (by simp; omega) hn6 (.int .i64 tk)).other (g := w2.heap.size) (j := 1) (by simp; omega) hn6 (.string (mkS tx))).other (g := w2.heap.size) (j := 2) (by simp; omega) hn6 (.string (mkS te))))
        have HT6 := Lib.hid ((((HT5.out.other (g' := w2.heap.size) (j := 0) hn8 (.int .i64 tk)).other (g' := w2.heap.size) (j := 1) hn8 (.string (mkS tx))).other (g' := w2.heap.size) (j := 2) hn8 (.string (mkS te))))
        have HU6 := Lib.hid (T9.setS HU1.out ⟨tk, tx, te⟩)
        have HE6 := Lib.hid ((((HE5.out.set (g := w2.heap.size) (j := 0) (by omega) (.int .i64 tk)).set (g := w2.heap.size) (j := 1) (by omega) (.string (mkS tx))).set (g := w2.heap.size) (j := 2) (by omega) (.string (mkS te))))
        go_wp2_with fail
        refine (blanks_any_calls (w1.alloc (.cells #[.string (mkS s), .bool (!v)] 48)) _ st' _ HP6.out).mono ?_
        rintro e w5 ⟨rfl, hps, hg⟩
        have HP7 := Lib.hid hps
        have HU7 := Lib.hid (HU6.out.grown hg hn6)
        have HT7 := Lib.hid (HT6.out.grown hg hn2)
        have HE7 := Lib.hid (HE6.out.grown hg hrb)
        have HC7 : Hid (Chain (st0.map blanks) 1 ⟨tk, tx, te⟩ ⟨bk, bx, bY⟩ ⟨ck, cx, cy⟩ (st'.map blanks)) := Lib.hid (by
          rcases HC.out with ⟨_, hst⟩ | ⟨h, _⟩ | ⟨h, _⟩ | ⟨h, _⟩
          · subst hst; exact .inr (.inl ⟨rfl, HN.out, fun h => HF.out (fun e => h (by rw [e]; rfl))⟩)
          · omega
          · omega
          · omega)
        clear u0 u1 u2 u3 u4 u5 u6 u7 u8 u9 u10 u11 u12 u13 u14 u15 u16 u17
        clear hps hg
        go_wp2
        go_roundw
        case rel => exact ⟨1, ⟨tk, tx, te⟩, ⟨bk, bx, bY⟩, ⟨ck, cx, cy⟩, st'.map blanks, by omega, by go_num, HP7, HU7, HT7, HE7, HC7⟩
        case measure => simp [intOf]
      · go_wp2_with fail
        refine (term_any_calls (w1.alloc (.cells #[.string (mkS s), .bool (!v)] 48)) _ st _ HE.out hrb HP.out).mono ?_
        rintro e w4 ⟨⟨tk, tx, te⟩, st', ⟨rfl, hf⟩, ⟨hps, hg⟩, hnx⟩
        unfold termV
        have HP1 := Lib.hid hps
        have HU1 := Lib.hid (HU.out.grown hg hn6)
        have HT5 := Lib.hid (HT.out.grown hg hn2)
        have HE5 := Lib.hid (HE.out.grown hg hrb)
        have HN := Lib.hid hnx.next
        have HF := Lib.hid hf
        have hz4 : w2.heap.size < w4.heap.size := HU1.out.s.lt
        clear hps hg hnx hf
        obtain ⟨⟨u0, u1, u2, u9, u10, u11⟩, ⟨u3, u4, u5, u12, u13, u14⟩, ⟨u6, u7, u8, u15, u16, u17⟩⟩ := HU1.out
        simp only [Nat.zero_add, Nat.reduceAdd] at u1 u2 u4 u5 u7 u8 u10 u11 u13 u14 u16 u17
        dsimp only [zeroTr, zeroT] at *
        have HP6 := Lib.hid ((((HP1.out.other (g := w2.heap.size) (j := 3) (by simp; omega) hn6 (.int .i64 tk)).other (g := w2.heap.size) (j := 4) (by simp; omega) hn6 (.string (mkS tx))).other (g := w2.heap.size) (j := 5) (by simp; omega) hn6 (.string (mkS te))))
        have HT6 := Lib.hid ((((HT5.out.other (g' := w2.heap.size) (j := 3) hn8 (.int .i64 tk)).other (g' := w2.heap.size) (j := 4) hn8 (.string (mkS tx))).other (g' := w2.heap.size) (j := 5) hn8 (.string (mkS te))))
        have HU6 := Lib.hid (HU1.out.setP ⟨tk, tx, te⟩)
        have HE6 := Lib.hid ((((HE5.out.set (g := w2.heap.size) (j := 3) (by omega) (.int .i64 tk)).set (g := w2.heap.size) (j := 4) (by omega) (.string (mkS tx))).set (g := w2.heap.size) (j := 5) (by omega) (.string (mkS te))))
        go_wp2_with fail
        refine (blanks_any_calls (w1.alloc (.cells #[.string (mkS s), .bool (!v)] 48)) _ st' _ HP6.out).mono ?_
        rintro e w5 ⟨rfl, hps, hg⟩
        have HP7 := Lib.hid hps
        have HU7 := Lib.hid (HU6.out.grown hg hn6)
        have HT7 := Lib.hid (HT6.out.grown hg hn2)
        have HE7 := Lib.hid (HE6.out.grown hg hrb)
        have HC7 : Hid (Chain (st0.map blanks) 2 ⟨ak, ax, ay⟩ ⟨tk, tx, te⟩ ⟨ck, cx, cy⟩ (st'.map blanks)) := Lib.hid (by
          rcases HC.out with ⟨h, _⟩ | ⟨_, n1, f1⟩ | ⟨h, _⟩ | ⟨h, _⟩
          · omega
          · exact .inr (.inr (.inl ⟨rfl, st, n1, HN.out, fun h => ⟨f1 (next_none HN.out h), HF.out (fun e => h (by rw [e]; rfl))⟩⟩))
          · omega
          · omega)
        clear u0 u1 u2 u3 u4 u5 u6 u7 u8 u9 u10 u11 u12 u13 u14 u15 u16 u17
        clear hps hg
        go_wp2
        go_roundw
        case rel => exact ⟨2, ⟨ak, ax, ay⟩, ⟨tk, tx, te⟩, ⟨ck, cx, cy⟩, st'.map blanks, by omega, by go_num, HP7, HU7, HT7, HE7, HC7⟩
        case measure => simp [intOf]
      · go_wp2_with fail
        refine (term_any_calls (w1.alloc (.cells #[.string (mkS s), .bool (!v)] 48)) _ st _ HE.out hrb HP.out).mono ?_
        rintro e w4 ⟨⟨tk, tx, te⟩, st', ⟨rfl, hf⟩, ⟨hps, hg⟩, hnx⟩
        unfold termV
        have HP1 := Lib.hid hps
        have HU1 := Lib.hid (HU.out.grown hg hn6)
        have HT5 := Lib.hid (HT.out.grown hg hn2)
        have HE5 := Lib.hid (HE.out.grown hg hrb)
        have HN := Lib.hid hnx.next
        have HF := Lib.hid hf
        have hz4 : w2.heap.size < w4.heap.size := HU1.out.s.lt
        clear hps hg hnx hf
        obtain ⟨⟨u0, u1, u2, u9, u10, u11⟩, ⟨u3, u4, u5, u12, u13, u14⟩, ⟨u6, u7, u8, u15, u16, u17⟩⟩ := HU1.out
        simp only [Nat.zero_add, Nat.reduceAdd] at u1 u2 u4 u5 u7 u8 u10 u11 u13 u14 u16 u17
        dsimp only [zeroTr, zeroT] at *
        have HP6 := Lib.hid ((((HP1.out.other (g := w2.heap.size) (j := 6) (by simp; omega) hn6 (.int .i64 tk)).other (g := w2.heap.size) (j := 7) (by simp; omega) hn6 (.string (mkS tx))).other (g := w2.heap.size) (j := 8) (by simp; omega) hn6 (.string (mkS te))))
        have HT6 := Lib.hid ((((HT5.out.other (g' := w2.heap.size) (j := 6) hn8 (.int .i64 tk)).other (g' := w2.heap.size) (j := 7) hn8 (.string (mkS tx))).other (g' := w2.heap.size) (j := 8) hn8 (.string (mkS te))))
        have HU6 := Lib.hid (HU1.out.setO ⟨tk, tx, te⟩)
        have HE6 := Lib.hid ((((HE5.out.set (g := w2.heap.size) (j := 6) (by omega) (.int .i64 tk)).set (g := w2.heap.size) (j := 7) (by omega) (.string (mkS tx))).set (g := w2.heap.size) (j := 8) (by omega) (.string (mkS te))))
        go_wp2_with fail
        refine (blanks_any_calls (w1.alloc (.cells #[.string (mkS s), .bool (!v)] 48)) _ st' _ HP6.out).mono ?_
        rintro e w5 ⟨rfl, hps, hg⟩
        have HP7 := Lib.hid hps
        have HU7 := Lib.hid (HU6.out.grown hg hn6)
        have HT7 := Lib.hid (HT6.out.grown hg hn2)
        have HE7 := Lib.hid (HE6.out.grown hg hrb)
        have HC7 : Hid (Chain (st0.map blanks) 3 ⟨ak, ax, ay⟩ ⟨bk, bx, bY⟩ ⟨tk, tx, te⟩ (st'.map blanks)) := Lib.hid (by
          rcases HC.out with ⟨h, _⟩ | ⟨h, _⟩ | ⟨_, s1, n1, n2, f2⟩ | ⟨h, _⟩
          · omega
          · omega
          · exact .inr (.inr (.inr ⟨rfl, s1, st, n1, n2, HN.out, fun h => ⟨(f2 (next_none HN.out h)).1, (f2 (next_none HN.out h)).2, HF.out (fun e => h (by rw [e]; rfl))⟩⟩))
          · omega)
        clear u0 u1 u2 u3 u4 u5 u6 u7 u8 u9 u10 u11 u12 u13 u14 u15 u16 u17
        clear hps hg
        go_wp2
        go_roundw
        case rel => exact ⟨3, ⟨ak, ax, ay⟩, ⟨bk, bx, bY⟩, ⟨tk, tx, te⟩, st'.map blanks, by omega, by go_num, HP7, HU7, HT7, HE7, HC7⟩
        case measure => simp [intOf]
      · obtain ⟨s1, s2, n1, n2, n3, ff⟩ : ∃ s1 s2, Ref5.Next false (st0.map blanks) ⟨ak, ax, ay⟩ s1 ∧ Ref5.Next false s1 ⟨bk, bx, bY⟩ s2 ∧ Ref5.Next false s2 ⟨ck, cx, cy⟩ st ∧ (st ≠ none → FitsX ⟨ak, ax, ay⟩ ∧ FitsX ⟨bk, bx, bY⟩ ∧ FitsX ⟨ck, cx, cy⟩) := by
          rcases HC.out with ⟨h, _⟩ | ⟨h, _⟩ | ⟨h, _⟩ | ⟨_, s1, s2, n1, n2, n3, ff⟩
          · omega
          · omega
          · omega
          · exact ⟨s1, s2, n1, n2, n3, ff⟩
        have HLn : Hid (lineOf false s = lineEnd ⟨⟨ak, ax, ay⟩, ⟨bk, bx, bY⟩, ⟨ck, cx, cy⟩⟩ st) := Lib.hid (by
          have h0 := HSt0.out
          cases v with
          | true =>
            rw [h0] at n1
            have ho' : over (blanks s) = false := by have := HO.out; rw [h0] at this; exact this
            exact one_by false s HV.out ho' n1 n2 n3
          | false =>
            rw [h0] at n1
            have : s1 = none := n1
            subst this
            have : s2 = none := n2
            subst this
            have : st = none := n3
            subst this
            rw [lineOf, if_pos HV.out]
            rfl)
        have HFF := Lib.hid ff
        clear n1 n2 n3 ff HC
        go_wp2_with fail
        refine (dot_any_calls (w1.alloc (.cells #[.string (mkS s), .bool (!v)] 48)) _ st _ HP.out).mono ?_
        rintro e w4 ⟨rfl, hps, hg⟩
        have HP1 := Lib.hid hps
        have HU1 := Lib.hid (HU.out.grown hg hn6)
        have HT5 := Lib.hid (HT.out.grown hg hn2)
        have HE5 := Lib.hid (HE.out.grown hg hrb)
        clear hps hg
        go_wp2_with fail
        refine (blanks_any_calls (w1.alloc (.cells #[.string (mkS s), .bool (!v)] 48)) _ (dot st) _ HP1.out).mono ?_
        rintro e w5 ⟨rfl, hps, hg⟩
        have HP7 := Lib.hid hps
        have HU7 := Lib.hid (HU1.out.grown hg hn6)
        have HT7 := Lib.hid (HT5.out.grown hg hn2)
        have HE7 := Lib.hid (HE5.out.grown hg hrb)
        have hz5 : w2.heap.size < w5.heap.size := HU7.out.s.lt
        clear hps hg
        obtain ⟨⟨u0, u1, u2, u9, u10, u11⟩, ⟨u3, u4, u5, u12, u13, u14⟩, ⟨u6, u7, u8, u15, u16, u17⟩⟩ := HU7.out
        simp only [Nat.zero_add, Nat.reduceAdd] at u1 u2 u4 u5 u7 u8 u10 u11 u13 u14 u16 u17
        dsimp only [zeroTr, zeroT] at *
        have HP8 := Lib.hid (HP7.out.alloc (.cells #[.int .i64 ak, .string (mkS ax), .string (mkS ay), .int .i64 bk, .string (mkS bx), .string (mkS bY), .int .i64 ck, .string (mkS cx), .string (mkS cy)] 25))
        have HT8 := Lib.hid (HT7.out.alloc (.cells #[.int .i64 ak, .string (mkS ax), .string (mkS ay), .int .i64 bk, .string (mkS bx), .string (mkS bY), .int .i64 ck, .string (mkS cx), .string (mkS cy)] 25))
        have HE8 := Lib.hid (HE7.out.below (bel_alloc (Below.refl _ _) (.cells #[.int .i64 ak, .string (mkS ax), .string (mkS ay), .int .i64 bk, .string (mkS bx), .string (mkS bY), .int .i64 ck, .string (mkS cx), .string (mkS cy)] 25)))
        have HV8 := Lib.hid (T9.new w5 ⟨⟨ak, ax, ay⟩, ⟨bk, bx, bY⟩, ⟨ck, cx, cy⟩⟩)
        have hm1 : ¬ w5.heap.size = w.heap.size := by omega
        have hm2 : ¬ w.heap.size = w5.heap.size := by omega
        have hzw5 : w.heap.size < w5.heap.size := by omega
        go_wp2_with fail
        refine (over_any_calls (w1.alloc (.cells #[.string (mkS s), .bool (!v)] 48)) _ ((dot st).map blanks) _ HP8.out).mono ?_
        rintro e w6 ⟨rfl, rfl⟩
        clear u0 u1 u2 u3 u4 u5 u6 u7 u8 u9 u10 u11 u12 u13 u14 u15 u16 u17
        cases hd : ((dot st).map blanks).any over with
        | false =>
          have HN1 := Lib.hid (HLn.out.trans (end_no _ st hd))
          clear hd
          obtain ⟨⟨p0, p1, p2, p9, p10, p11⟩, ⟨p3, p4, p5, p12, p13, p14⟩, ⟨p6, p7, p8, p15, p16, p17⟩⟩ := HT7.out
          simp only [Nat.zero_add, Nat.reduceAdd] at p1 p2 p4 p5 p7 p8 p10 p11 p13 p14 p16 p17
          dsimp only [zeroTr, zeroT] at *
          go_wp2
          refine bodyPost_ret (v := oneV none) (by simp [results, Tryz.results10, go_sem, hm1, hm2, hzw5, p0, p1, p2, p3, p4, p5, p6, p7, p8, oneV, tripleV, zeroTr, zeroT, mkS_nil]) rfl ?_
          rw [HN1.out]
          refine ⟨⟨rfl, fun t ht => by cases ht⟩, ?_⟩
          clear p0 p1 p2 p3 p4 p5 p6 p7 p8 p9 p10 p11 p12 p13 p14 p15 p16 p17
          exact bel_alloc (bel_set (bel_set (bel_set (bel_set (bel_set (bel_set (bel_set (bel_set (bel_set (bel_seen HP7.out.grown HB2.out (by omega)) (Nat.le_refl _) _) (Nat.le_refl _) _) (Nat.le_refl _) _) (Nat.le_refl _) _) (Nat.le_refl _) _) (Nat.le_refl _) _) (Nat.le_refl _) _) (Nat.le_refl _) _) (Nat.le_refl _) _) _
        | true =>
          obtain ⟨hne, hle⟩ := end_yes ⟨⟨ak, ax, ay⟩, ⟨bk, bx, bY⟩, ⟨ck, cx, cy⟩⟩ st hd
          have HN0 := Lib.hid (HLn.out.trans hle)
          have hfx := HFF.out hne
          have hfit : FitsT ⟨⟨ak, ax, ay⟩, ⟨bk, bx, bY⟩, ⟨ck, cx, cy⟩⟩ := ⟨hfx.1.1, hfx.2.1.1, hfx.2.2.1⟩
          have HFt := Lib.hid hfit
          have HIs := Lib.hid (pist_calls ⟨⟨ak, ax, ay⟩, ⟨bk, bx, bY⟩, ⟨ck, cx, cy⟩⟩ hfit ⟨by have := hfx.1.2; dsimp only at this ⊢; omega, by have := hfx.2.1.2; dsimp only at this ⊢; omega, by have := hfx.2.2.2; dsimp only at this ⊢; omega⟩)
          clear hd hne hle hfit hfx
          go_wp2_with fail
          refine (HIs.out _ HE8.out).mono ?_
          rintro e w6 ⟨rfl, hb6⟩
          have HP9 : Hid ((w1.alloc (.cells #[.string (mkS s), .bool (!v)] 48)).grownBy w6 (some w1.heap.size)) := Lib.hid (HP8.out.grown.trans ⟨hb6.os, hb6.tape, hb6.output, hb6.size, fun k hk _ => hb6.block k hk⟩)
          have HT9 := Lib.hid (HT8.out.below hb6)
          have HV9 := Lib.hid (HV8.out.below hb6)
          have hz6 : w5.heap.size < w6.heap.size := HV9.out.s.lt
          clear hb6
          obtain ⟨⟨p0, p1, p2, p9, p10, p11⟩, ⟨p3, p4, p5, p12, p13, p14⟩, ⟨p6, p7, p8, p15, p16, p17⟩⟩ := HT9.out
          simp only [Nat.zero_add, Nat.reduceAdd] at p1 p2 p4 p5 p7 p8 p10 p11 p13 p14 p16 p17
          dsimp only [zeroTr, zeroT] at *
          obtain ⟨⟨u0, u1, u2, u9, u10, u11⟩, ⟨u3, u4, u5, u12, u13, u14⟩, ⟨u6, u7, u8, u15, u16, u17⟩⟩ := HV9.out
          simp only [Nat.zero_add, Nat.reduceAdd] at u1 u2 u4 u5 u7 u8 u10 u11 u13 u14 u16 u17
          dsimp only [zeroTr, zeroT] at *
          cases hi : isTriple ⟨⟨ak, ax, ay⟩, ⟨bk, bx, bY⟩, ⟨ck, cx, cy⟩⟩ with
          | false =>
            have HN1 : Hid (lineOf false s = none) := Lib.hid (HN0.out.trans (if_neg (by rw [hi]; decide)))
            clear hi HN0
            go_wp2
            refine bodyPost_ret (v := oneV none) (by simp [results, Tryz.results10, go_sem, hm1, hm2, p0, p1, p2, p3, p4, p5, p6, p7, p8, oneV, tripleV, zeroTr, zeroT, mkS_nil]) rfl ?_
            rw [HN1.out]
            refine ⟨⟨rfl, fun t ht => by cases ht⟩, ?_⟩
            clear p0 p1 p2 p3 p4 p5 p6 p7 p8 p9 p10 p11 p12 p13 p14 p15 p16 p17
            clear u0 u1 u2 u3 u4 u5 u6 u7 u8 u9 u10 u11 u12 u13 u14 u15 u16 u17
            exact (bel_set (bel_set (bel_set (bel_set (bel_set (bel_set (bel_set (bel_set (bel_set (bel_seen HP9.out HB2.out (by omega)) (Nat.le_refl _) _) (Nat.le_refl _) _) (Nat.le_refl _) _) (Nat.le_refl _) _) (Nat.le_refl _) _) (Nat.le_refl _) _) (Nat.le_refl _) _) (Nat.le_refl _) _) (Nat.le_refl _) _)
          | true =>
            have HN1 : Hid (lineOf false s = some (some ⟨⟨ak, ax, ay⟩, ⟨bk, bx, bY⟩, ⟨ck, cx, cy⟩⟩)) := Lib.hid (HN0.out.trans (if_pos hi))
            clear hi HN0
            go_wp2
            refine bodyPost_ret (v := oneV (some (some ⟨⟨ak, ax, ay⟩, ⟨bk, bx, bY⟩, ⟨ck, cx, cy⟩⟩))) (by simp [results, Tryz.results10, go_sem, hm1, hm2, p0, p1, p2, p3, p4, p5, p6, p7, p8, oneV, tripleV, zeroTr, zeroT, mkS_nil]) rfl ?_
            rw [HN1.out]
            refine ⟨⟨rfl, fun t ht => by cases ht; exact HFt.out⟩, ?_⟩
            clear p0 p1 p2 p3 p4 p5 p6 p7 p8 p9 p10 p11 p12 p13 p14 p15 p16 p17
            clear u0 u1 u2 u3 u4 u5 u6 u7 u8 u9 u10 u11 u12 u13 u14 u15 u16 u17
            exact (bel_set (bel_set (bel_set (bel_set (bel_set (bel_set (bel_set (bel_set (bel_set (bel_seen HP9.out HB2.out (by omega)) (Nat.le_refl _) _) (Nat.le_refl _) _) (Nat.le_refl _) _) (Nat.le_refl _) _) (Nat.le_refl _) _) (Nat.le_refl _) _) (Nat.le_refl _) _) (Nat.le_refl _) _) (Nat.le_refl _) _)
end Go.Proofs.YtmcoloapiiakbaaGreatDoor.Prg
