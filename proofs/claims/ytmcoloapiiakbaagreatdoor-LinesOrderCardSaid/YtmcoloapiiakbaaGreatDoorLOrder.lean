/-
  The law LinesOrder, walked.
-/
import Derived.Test.YtmcoloapiiakbaaGreatDoorLong
import Derived.Test.YtmcoloapiiakbaaGreatDoorKnown
import Derived.Test.YtmcoloapiiakbaaGreatDoorTriEq
set_option linter.unusedVariables false
set_option linter.unusedSimpArgs false
namespace Go.Proofs.YtmcoloapiiakbaaGreatDoor.LOrder
open Go.RowKit Go.Lib Go.Proofs.YtmcoloapiiakbaaGreatDoor.B Go.Proofs.YtmcoloapiiakbaaGreatDoor.Rd Go.Proofs.YtmcoloapiiakbaaGreatDoor.Utf Go.Proofs.YtmcoloapiiakbaaGreatDoor.TermPure Go.Proofs.YtmcoloapiiakbaaGreatDoor.LinesPure Go.Proofs.YtmcoloapiiakbaaGreatDoor.Tx Go.Proofs.YtmcoloapiiakbaaGreatDoor.Env Go.Proofs.YtmcoloapiiakbaaGreatDoor.Tri Go.Proofs.YtmcoloapiiakbaaGreatDoor.SortP Go.Proofs.YtmcoloapiiakbaaGreatDoor.Print Go.Proofs.YtmcoloapiiakbaaGreatDoor.Cmp Go.Proofs.YtmcoloapiiakbaaGreatDoor.Long

/-- A row just laid. -/
theorem rows_new (w : World) (l : List Triple) (hl : l.length ≤ 140737488355328) (hf : ∀ t ∈ l, FitsW3 t) :
    triK.sl.M (w.alloc (.cells (l.flatMap triL).toArray 25)) (fun k => k < (w.alloc (.cells (l.flatMap triL).toArray 25)).heap.size) l [.slice (some ⟨w.heap.size, 0, none⟩) l.length l.length] := by
  refine ⟨some ⟨w.heap.size, 0, none⟩, l.length, rfl, Nat.le_refl _, ⟨hl, by unfold maxLen; omega⟩, fun h => (by cases h), fun i x hx => ?_⟩
  have hi := (List.getElem?_eq_some_iff.1 hx).1
  refine ⟨_, triL x, rfl, by simp, ⟨rfl, hf x (List.mem_of_getElem? hx)⟩, fun j u hu => ?_⟩
  have hj : j < 9 := by
    have := (List.getElem?_eq_some_iff.1 hu).1
    exact this
  rw [add_plain, World.cell?, Kd.heap_new]
  show (if (none : Option _).isSome = true then none else (l.flatMap triL).toArray[i * 9 + j]?) = some u
  have key : ∀ (l : List Triple) (i : Nat) (x : Triple), l[i]? = some x → (l.flatMap triL)[i * 9 + j]? = (triL x)[j]? := by
    intro l
    induction l with
    | nil => intro i x h; simp at h
    | cons y l ih =>
      intro i x h
      rw [List.flatMap_cons]
      cases i with
      | zero =>
        simp at h
        subst h
        rw [Nat.zero_mul, Nat.zero_add, List.getElem?_append_left (by exact hj)]
      | succ i =>
        simp at h
        rw [List.getElem?_append_right (by show 9 ≤ _; omega), ← ih i x h]
        congr 1
        show (i + 1) * 9 + j - 9 = _
        omega
  rw [if_neg (by simp), List.getElem?_toArray, key l i x hx]
  exact hu
theorem box27 (w : World) (a b c : Triple) : C9 (((w.alloc (.cells (triL a).toArray 25)).alloc (.cells (triL b).toArray 25)).alloc (.cells (triL c).toArray 25)) w.heap.size 0 a ∧
    C9 (((w.alloc (.cells (triL a).toArray 25)).alloc (.cells (triL b).toArray 25)).alloc (.cells (triL c).toArray 25)) (w.heap.size + 1) 0 b ∧
    C9 (((w.alloc (.cells (triL a).toArray 25)).alloc (.cells (triL b).toArray 25)).alloc (.cells (triL c).toArray 25)) (w.heap.size + 2) 0 c := by
  have h1 : (w.alloc (.cells (triL a).toArray 25)).heap.size = w.heap.size + 1 := by simp
  have h2 : ((w.alloc (.cells (triL a).toArray 25)).alloc (.cells (triL b).toArray 25)).heap.size = w.heap.size + 2 := by simp
  refine ⟨((C9.new w a).alloc _).alloc _, ?_, ?_⟩
  · rw [← h1]; exact (C9.new _ b).alloc _
  · rw [← h2]; exact C9.new _ c
set_option maxHeartbeats 6400000 in
set_option maxRecDepth 100000 in
theorem walk0 (w : World) (he : Env w) (a b c : Triple) (ha : FitsW3 a) (hb : FitsW3 b) (hc : FitsW3 c) :
    Calls Tryz.prog 4 #[Ref5.tripleV a, Ref5.tripleV b, Ref5.tripleV c] w fun e w' => e = .returned (.bool true) ∧ Below w.heap.size w w' := by
  have hfits : ∀ t ∈ [a, b, c], FitsW3 t := by
    intro t ht
    simp at ht
    rcases ht with rfl | rfl | rfl <;> assumption
  have HROW := Lib.hid (fun w => rows_new w [a, b, c] (by simp) hfits)
  have HLong := Lib.hid (fun w => long_calls [a, b, c] (some ⟨w.heap.size, 0, none⟩) 3 (w.alloc (.cells ([a, b, c].flatMap triL).toArray 25)) (HROW.out w))
  have HMay := Lib.hid (fun w he (hs : total [a, b, c] ≤ 9000) => may_calls [a, b, c] (some ⟨w.heap.size, 0, none⟩) 3 (w.alloc (.cells ([a, b, c].flatMap triL).toArray 25)) he (HROW.out w) hs)
  have HSm := Lib.hid (fun (hs : total [a, b, c] ≤ 9000) => small_of hs)
  have HC1 := Lib.hid (fun (hs : total [a, b, c] ≤ 9000) w => cmp_calls a b (HSm.out hs a (by simp)) (HSm.out hs b (by simp)) w)
  have HC2 := Lib.hid (fun (hs : total [a, b, c] ≤ 9000) w => cmp_calls b c (HSm.out hs b (by simp)) (HSm.out hs c (by simp)) w)
  have HC3 := Lib.hid (fun (hs : total [a, b, c] ≤ 9000) w => cmp_calls a c (HSm.out hs a (by simp)) (HSm.out hs c (by simp)) w)
  have HC4 := Lib.hid (fun (hs : total [a, b, c] ≤ 9000) w => cmp_calls b a (HSm.out hs b (by simp)) (HSm.out hs a (by simp)) w)
  have HC5 := Lib.hid (fun (hs : total [a, b, c] ≤ 9000) w => RefCmp.cmp5_calls a b (HSm.out hs a (by simp)) (HSm.out hs b (by simp)) w)
  have HPure : Hid ([a, b, c].all isTriple = true → (cmpT a b = 0 ↔ a = b) ∧ cmpT b a = - cmpT a b ∧ (cmpT a b = -1 ∨ cmpT a b = 0 ∨ cmpT a b = 1) ∧ (cmpT a b ≤ 0 → cmpT b c ≤ 0 → cmpT a c ≤ 0)) := Lib.hid (fun h => by
    rw [List.all_eq_true] at h
    refine ⟨cmpT_eq (h a (by simp)) (h b (by simp)), cmpT_swap a b, cmpT_three a b, fun h1 h2 => ?_⟩
    have k1 : ¬ ltT b a := by unfold ltT; rw [cmpT_swap]; omega
    have k2 : ¬ ltT c b := by unfold ltT; rw [cmpT_swap]; omega
    have := SortP.le_trans k1 k2
    unfold ltT at this
    rw [cmpT_swap] at this
    omega)
  have HEQ := Lib.hid (fun w => TriEq.run_eq_tri a b w)
  have HE := Lib.hid he
  have HAB : Hid (∀ (h : a = b), (a = b)) := Lib.hid (fun h => h)
  clear he ha hb hc hfits HROW HSm
  generalize hcab : cmpT a b = p at *
  generalize hcbc : cmpT b c = q at *
  generalize hcac : cmpT a c = r at *
  generalize hcba : cmpT b a = p' at *
  clear hcab hcbc hcac hcba
  generalize htt : total [a, b, c] = tt at *
  generalize hall : [a, b, c].all isTriple = al at *
  clear htt hall
  generalize hdec : decide (a = b) = de at *
  have HD : Hid ((a = b) ↔ de = true) := Lib.hid (by rw [← hdec]; simp)
  clear hdec
  generalize (a = b) = AB at *
  obtain ⟨⟨sk, sx, se⟩, ⟨pk, px, pe⟩, ⟨ok, ox, oe⟩⟩ := a
  obtain ⟨⟨sk', sx', se'⟩, ⟨pk', px', pe'⟩, ⟨ok', ox', oe'⟩⟩ := b
  obtain ⟨⟨sk2, sx2, se2⟩, ⟨pk2, px2, pe2⟩, ⟨ok2, ox2, oe2⟩⟩ := c
  unfold Ref5.tripleV at *
  dsimp only at *
  go_enter Tryz.func4, Tryz.ntmps4
  go_upto_region 0 with fail
  go_cut [3, 4, 5, 6] (fun v3 v4 v5 v6 wx => v3 = .pointer (some ⟨w.heap.size, 0, none⟩) ∧ v4 = .pointer (some ⟨w.heap.size + 1, 0, none⟩) ∧ v5 = .pointer (some ⟨w.heap.size + 2, 0, none⟩) ∧ v6 = .bool false ∧ Hid (Below w.heap.size w wx) ∧ Hid (C9 wx w.heap.size 0 ⟨⟨sk, sx, se⟩, ⟨pk, px, pe⟩, ⟨ok, ox, oe⟩⟩) ∧ Hid (C9 wx (w.heap.size + 1) 0 ⟨⟨sk', sx', se'⟩, ⟨pk', px', pe'⟩, ⟨ok', ox', oe'⟩⟩) ∧ Hid (C9 wx (w.heap.size + 2) 0 ⟨⟨sk2, sx2, se2⟩, ⟨pk2, px2, pe2⟩, ⟨ok2, ox2, oe2⟩⟩))
  case first =>
    go_wp2
    go_meet
    exact ⟨rfl, rfl, rfl, rfl, Lib.hid (bel_alloc (bel_alloc (bel_alloc (Below.refl _ _) _) _) _), Lib.hid (box27 w ⟨⟨sk, sx, se⟩, ⟨pk, px, pe⟩, ⟨ok, ox, oe⟩⟩ ⟨⟨sk', sx', se'⟩, ⟨pk', px', pe'⟩, ⟨ok', ox', oe'⟩⟩ ⟨⟨sk2, sx2, se2⟩, ⟨pk2, px2, pe2⟩, ⟨ok2, ox2, oe2⟩⟩).1, Lib.hid (box27 w ⟨⟨sk, sx, se⟩, ⟨pk, px, pe⟩, ⟨ok, ox, oe⟩⟩ ⟨⟨sk', sx', se'⟩, ⟨pk', px', pe'⟩, ⟨ok', ox', oe'⟩⟩ ⟨⟨sk2, sx2, se2⟩, ⟨pk2, px2, pe2⟩, ⟨ok2, ox2, oe2⟩⟩).2.1, Lib.hid (box27 w ⟨⟨sk, sx, se⟩, ⟨pk, px, pe⟩, ⟨ok, ox, oe⟩⟩ ⟨⟨sk', sx', se'⟩, ⟨pk', px', pe'⟩, ⟨ok', ox', oe'⟩⟩ ⟨⟨sk2, sx2, se2⟩, ⟨pk2, px2, pe2⟩, ⟨ok2, ox2, oe2⟩⟩).2.2⟩
  case rest =>
  obtain ⟨rfl, rfl, rfl, rfl, HB, HA0, HB0, HC0⟩ := hcut
  have zA := HA0.out.lt
  have zB := HB0.out.lt
  have zC := HC0.out.lt
  obtain ⟨x0, x1, x2, x3, x4, x5, x6, x7, x8⟩ := HA0.out
  obtain ⟨y0, y1, y2, y3, y4, y5, y6, y7, y8⟩ := HB0.out
  obtain ⟨z0, z1, z2, z3, z4, z5, z6, z7, z8⟩ := HC0.out
  simp only [Nat.zero_add] at x0 x1 x2 x3 x4 x5 x6 x7 x8 y0 y1 y2 y3 y4 y5 y6 y7 y8 z0 z1 z2 z3 z4 z5 z6 z7 z8
  have HBr := Lib.hid (bel_alloc (Below.refl wc.heap.size wc) (.cells #[.int .i64 sk, .string (mkS sx), .string (mkS se), .int .i64 pk, .string (mkS px), .string (mkS pe), .int .i64 ok, .string (mkS ox), .string (mkS oe), .int .i64 sk', .string (mkS sx'), .string (mkS se'), .int .i64 pk', .string (mkS px'), .string (mkS pe'), .int .i64 ok', .string (mkS ox'), .string (mkS oe'), .int .i64 sk2, .string (mkS sx2), .string (mkS se2), .int .i64 pk2, .string (mkS px2), .string (mkS pe2), .int .i64 ok2, .string (mkS ox2), .string (mkS oe2)] 25))
  have HL := Lib.hid (HLong.out wc)
  by_cases htt : 9000 < tt
  · rw [decide_eq_true htt] at HL
    go_wp2_with fail
    refine HL.out.mono ?_
    rintro e w2 ⟨rfl, hb⟩
    have HB2 := Lib.hid (bel_step HB.out (bel_step HBr.out hb))
    clear hb
    go_wp2
    go_ret
    exact ⟨rfl, HB2.out⟩
  have htt2 : tt ≤ 9000 := by omega
  rw [decide_eq_false htt] at HL
  go_wp2_with fail
  refine HL.out.mono ?_
  rintro e w2 ⟨rfl, hb⟩
  have HB2 := Lib.hid (bel_step HBr.out hb)
  have HBw2 := Lib.hid (bel_step HB.out HB2.out)
  have HA1 := Lib.hid (HA0.out.below HB2.out)
  have HB1 := Lib.hid (HB0.out.below HB2.out)
  have HC1' := Lib.hid (HC0.out.below HB2.out)
  clear hb x0 x1 x2 x3 x4 x5 x6 x7 x8 y0 y1 y2 y3 y4 y5 y6 y7 y8 z0 z1 z2 z3 z4 z5 z6 z7 z8 HL HBr
  have zA1 := HA1.out.lt
  have zB1 := HB1.out.lt
  have zC1 := HC1'.out.lt
  obtain ⟨x0, x1, x2, x3, x4, x5, x6, x7, x8⟩ := HA1.out
  obtain ⟨y0, y1, y2, y3, y4, y5, y6, y7, y8⟩ := HB1.out
  obtain ⟨z0, z1, z2, z3, z4, z5, z6, z7, z8⟩ := HC1'.out
  simp only [Nat.zero_add] at x0 x1 x2 x3 x4 x5 x6 x7 x8 y0 y1 y2 y3 y4 y5 y6 y7 y8 z0 z1 z2 z3 z4 z5 z6 z7 z8
  have HBr2 := Lib.hid (bel_alloc (Below.refl w2.heap.size w2) (.cells #[.int .i64 sk, .string (mkS sx), .string (mkS se), .int .i64 pk, .string (mkS px), .string (mkS pe), .int .i64 ok, .string (mkS ox), .string (mkS oe), .int .i64 sk', .string (mkS sx'), .string (mkS se'), .int .i64 pk', .string (mkS px'), .string (mkS pe'), .int .i64 ok', .string (mkS ox'), .string (mkS oe'), .int .i64 sk2, .string (mkS sx2), .string (mkS se2), .int .i64 pk2, .string (mkS px2), .string (mkS pe2), .int .i64 ok2, .string (mkS ox2), .string (mkS oe2)] 25))
  have HE2 := Lib.hid (HE.out.below (bel_step HBw2.out HBr2.out))
  have HM := Lib.hid (HMay.out w2 HE2.out htt2)
  cases al
  · go_wp2_with fail
    refine HM.out.mono ?_
    rintro e w3 ⟨rfl, hb⟩
    have HB3 := Lib.hid (bel_step HBw2.out (bel_step HBr2.out hb))
    clear hb
    go_wp2
    go_ret
    exact ⟨rfl, HB3.out⟩
  go_wp2_with fail
  refine HM.out.mono ?_
  rintro e w3 ⟨rfl, hb⟩
  have HB3 := Lib.hid (bel_step HBr2.out hb)
  have HBw3 := Lib.hid (bel_step HBw2.out HB3.out)
  have HA2 := Lib.hid (HA1.out.below HB3.out)
  have HB22 := Lib.hid (HB1.out.below HB3.out)
  have HC2' := Lib.hid (HC1'.out.below HB3.out)
  clear hb x0 x1 x2 x3 x4 x5 x6 x7 x8 y0 y1 y2 y3 y4 y5 y6 y7 y8 z0 z1 z2 z3 z4 z5 z6 z7 z8 HM HBr2
  have zA2 := HA2.out.lt
  have zB2 := HB22.out.lt
  have zC2 := HC2'.out.lt
  have x0 : ∀ p : QT.Bel w3, p.w.cell? ⟨w.heap.size, 0, none⟩ = some (.int .i64 sk) := fun p => p.cell HA2.out.c0
  have x1 : ∀ p : QT.Bel w3, p.w.cell? ⟨w.heap.size, 1, none⟩ = some (.string (mkS sx)) := fun p => p.cell HA2.out.c1
  have x2 : ∀ p : QT.Bel w3, p.w.cell? ⟨w.heap.size, 2, none⟩ = some (.string (mkS se)) := fun p => p.cell HA2.out.c2
  have x3 : ∀ p : QT.Bel w3, p.w.cell? ⟨w.heap.size, 3, none⟩ = some (.int .i64 pk) := fun p => p.cell HA2.out.c3
  have x4 : ∀ p : QT.Bel w3, p.w.cell? ⟨w.heap.size, 4, none⟩ = some (.string (mkS px)) := fun p => p.cell HA2.out.c4
  have x5 : ∀ p : QT.Bel w3, p.w.cell? ⟨w.heap.size, 5, none⟩ = some (.string (mkS pe)) := fun p => p.cell HA2.out.c5
  have x6 : ∀ p : QT.Bel w3, p.w.cell? ⟨w.heap.size, 6, none⟩ = some (.int .i64 ok) := fun p => p.cell HA2.out.c6
  have x7 : ∀ p : QT.Bel w3, p.w.cell? ⟨w.heap.size, 7, none⟩ = some (.string (mkS ox)) := fun p => p.cell HA2.out.c7
  have x8 : ∀ p : QT.Bel w3, p.w.cell? ⟨w.heap.size, 8, none⟩ = some (.string (mkS oe)) := fun p => p.cell HA2.out.c8
  have y0 : ∀ p : QT.Bel w3, p.w.cell? ⟨w.heap.size + 1, 0, none⟩ = some (.int .i64 sk') := fun p => p.cell HB22.out.c0
  have y1 : ∀ p : QT.Bel w3, p.w.cell? ⟨w.heap.size + 1, 1, none⟩ = some (.string (mkS sx')) := fun p => p.cell HB22.out.c1
  have y2 : ∀ p : QT.Bel w3, p.w.cell? ⟨w.heap.size + 1, 2, none⟩ = some (.string (mkS se')) := fun p => p.cell HB22.out.c2
  have y3 : ∀ p : QT.Bel w3, p.w.cell? ⟨w.heap.size + 1, 3, none⟩ = some (.int .i64 pk') := fun p => p.cell HB22.out.c3
  have y4 : ∀ p : QT.Bel w3, p.w.cell? ⟨w.heap.size + 1, 4, none⟩ = some (.string (mkS px')) := fun p => p.cell HB22.out.c4
  have y5 : ∀ p : QT.Bel w3, p.w.cell? ⟨w.heap.size + 1, 5, none⟩ = some (.string (mkS pe')) := fun p => p.cell HB22.out.c5
  have y6 : ∀ p : QT.Bel w3, p.w.cell? ⟨w.heap.size + 1, 6, none⟩ = some (.int .i64 ok') := fun p => p.cell HB22.out.c6
  have y7 : ∀ p : QT.Bel w3, p.w.cell? ⟨w.heap.size + 1, 7, none⟩ = some (.string (mkS ox')) := fun p => p.cell HB22.out.c7
  have y8 : ∀ p : QT.Bel w3, p.w.cell? ⟨w.heap.size + 1, 8, none⟩ = some (.string (mkS oe')) := fun p => p.cell HB22.out.c8
  have z0 : ∀ p : QT.Bel w3, p.w.cell? ⟨w.heap.size + 2, 0, none⟩ = some (.int .i64 sk2) := fun p => p.cell HC2'.out.c0
  have z1 : ∀ p : QT.Bel w3, p.w.cell? ⟨w.heap.size + 2, 1, none⟩ = some (.string (mkS sx2)) := fun p => p.cell HC2'.out.c1
  have z2 : ∀ p : QT.Bel w3, p.w.cell? ⟨w.heap.size + 2, 2, none⟩ = some (.string (mkS se2)) := fun p => p.cell HC2'.out.c2
  have z3 : ∀ p : QT.Bel w3, p.w.cell? ⟨w.heap.size + 2, 3, none⟩ = some (.int .i64 pk2) := fun p => p.cell HC2'.out.c3
  have z4 : ∀ p : QT.Bel w3, p.w.cell? ⟨w.heap.size + 2, 4, none⟩ = some (.string (mkS px2)) := fun p => p.cell HC2'.out.c4
  have z5 : ∀ p : QT.Bel w3, p.w.cell? ⟨w.heap.size + 2, 5, none⟩ = some (.string (mkS pe2)) := fun p => p.cell HC2'.out.c5
  have z6 : ∀ p : QT.Bel w3, p.w.cell? ⟨w.heap.size + 2, 6, none⟩ = some (.int .i64 ok2) := fun p => p.cell HC2'.out.c6
  have z7 : ∀ p : QT.Bel w3, p.w.cell? ⟨w.heap.size + 2, 7, none⟩ = some (.string (mkS ox2)) := fun p => p.cell HC2'.out.c7
  have z8 : ∀ p : QT.Bel w3, p.w.cell? ⟨w.heap.size + 2, 8, none⟩ = some (.string (mkS oe2)) := fun p => p.cell HC2'.out.c8
  go_upto_region 3 with fail
  refine QT.region_all (by kernel_rfl) (by kernel_rfl) ?_
  iterate 2 (go_big_quiet_step (fail))
  go_big_quiet_step (exact QT.Bel.call _ (HC1.out htt2 _))
  iterate 2 (go_big_quiet_step (fail))
  go_big_quiet_step (exact QT.Bel.call _ (HC2.out htt2 _))
  iterate 2 (go_big_quiet_step (fail))
  go_big_quiet_step (exact QT.Bel.call _ (HC3.out htt2 _))
  repeat (go_big_quiet_step (fail))
  refine wpQuiet_nil ?_
  intro w4 hw'
  obtain ⟨⟨_, hb⟩, rfl⟩ := hw'
  have HBw4 := Lib.hid (bel_step HBw3.out hb)
  have HA4 := Lib.hid (HA2.out.below hb)
  have HB24 := Lib.hid (HB22.out.below hb)
  have HC4' := Lib.hid (HC2'.out.below hb)
  clear hb x0 x1 x2 x3 x4 x5 x6 x7 x8 y0 y1 y2 y3 y4 y5 y6 y7 y8 z0 z1 z2 z3 z4 z5 z6 z7 z8
  obtain ⟨hp0, hp', hp3, hpqr⟩ := HPure.out trivial
  have HCase : Hid ((p = 1 ∧ p' = -1 ∧ de = false) ∨ ((p = 0 ∧ p' = 0 ∧ de = true) ∧ (decide (0 < q) = true ∨ (decide (0 < q) = false ∧ decide (r ≤ 0) = true))) ∨ ((p = -1 ∧ p' = 1 ∧ de = false) ∧ (decide (0 < q) = true ∨ (decide (0 < q) = false ∧ decide (r ≤ 0) = true)))) := Lib.hid (by
    have hde : p ≠ 0 → de = false := fun h => by
      rw [← Bool.not_eq_true]
      intro h2
      exact h (hp0.2 (HD.out.2 h2))
    have hqr : p ≤ 0 → (decide (0 < q) = true ∨ (decide (0 < q) = false ∧ decide (r ≤ 0) = true)) := fun h => by
      by_cases hq : 0 < q
      · exact .inl (decide_eq_true hq)
      · exact .inr ⟨decide_eq_false hq, decide_eq_true (hpqr h (by omega))⟩
    rcases hp3 with h | h | h
    · exact .inr (.inr ⟨⟨h, by omega, hde (by omega)⟩, hqr (by omega)⟩)
    · exact .inr (.inl ⟨⟨h, by omega, HD.out.1 (hp0.1 h)⟩, hqr (by omega)⟩)
    · exact .inl ⟨h, by omega, hde (by omega)⟩)
  clear hp0 hp' hp3 hpqr HPure HD
  have heq := HEQ.out
  have zA4 := HA4.out.lt
  have zB4 := HB24.out.lt
  have zC4 := HC4'.out.lt
  obtain ⟨x0, x1, x2, x3, x4, x5, x6, x7, x8⟩ := HA4.out
  obtain ⟨y0, y1, y2, y3, y4, y5, y6, y7, y8⟩ := HB24.out
  simp only [Nat.zero_add] at x0 x1 x2 x3 x4 x5 x6 x7 x8 y0 y1 y2 y3 y4 y5 y6 y7 y8
  rcases HCase.out with ⟨rfl, rfl, rfl⟩ | ⟨⟨rfl, rfl, rfl⟩, hq | ⟨hq, hr⟩⟩ | ⟨⟨rfl, rfl, rfl⟩, hq | ⟨hq, hr⟩⟩
  all_goals
    clear HCase
    go_wp2_with fail
    refine (HC4.out htt2 _).mono ?_
    rintro e w5 ⟨rfl, hb⟩
    have HBw5 := Lib.hid (bel_step HBw4.out hb)
    have HA5 := Lib.hid (HA4.out.below hb)
    have HB25 := Lib.hid (HB24.out.below hb)
    have HC5' := Lib.hid (HC4'.out.below hb)
    clear hb x0 x1 x2 x3 x4 x5 x6 x7 x8 y0 y1 y2 y3 y4 y5 y6 y7 y8
    have zA5 := HA5.out.lt
    have zB5 := HB25.out.lt
    have zC5 := HC5'.out.lt
    obtain ⟨x0, x1, x2, x3, x4, x5, x6, x7, x8⟩ := HA5.out
    obtain ⟨y0, y1, y2, y3, y4, y5, y6, y7, y8⟩ := HB25.out
    simp only [Nat.zero_add] at x0 x1 x2 x3 x4 x5 x6 x7 x8 y0 y1 y2 y3 y4 y5 y6 y7 y8
    go_wp2_with fail
    refine (HC5.out htt2 _).mono ?_
    rintro e w6 ⟨rfl, hb⟩
    have HBw6 := Lib.hid (bel_step HBw5.out hb)
    have HA6 := Lib.hid (HA5.out.below hb)
    have HB26 := Lib.hid (HB25.out.below hb)
    have HC6' := Lib.hid (HC5'.out.below hb)
    clear hb x0 x1 x2 x3 x4 x5 x6 x7 x8 y0 y1 y2 y3 y4 y5 y6 y7 y8
    have zA6 := HA6.out.lt
    have zB6 := HB26.out.lt
    have zC6 := HC6'.out.lt
    obtain ⟨x0, x1, x2, x3, x4, x5, x6, x7, x8⟩ := HA6.out
    obtain ⟨y0, y1, y2, y3, y4, y5, y6, y7, y8⟩ := HB26.out
    simp only [Nat.zero_add] at x0 x1 x2 x3 x4 x5 x6 x7 x8 y0 y1 y2 y3 y4 y5 y6 y7 y8
    go_wp2_with fail
    refine (Known.known_calls _ (HE.out.below HBw6.out)).mono ?_
    rintro e w7 ⟨rfl, hb⟩
    have HBw7 := Lib.hid (bel_step HBw6.out hb)
    clear hb
    go_wp2
    go_ret
    exact ⟨rfl, HBw7.out⟩
theorem agg_of {w : World} {ok : Nat → Prop} {a : Triple} {cs : Array Value} (h : triK.M w ok a cs.toList) : Value.agg cs = Ref5.tripleV a ∧ FitsW3 a := by
  obtain ⟨h1, h2⟩ := h
  refine ⟨?_, h2⟩
  rw [tripleV_eq, ← h1]
theorem walk (w : World) (he : Env w) (a : Triple) (ca : Array Value) (ma : triK.M w (fun _ => True) a ca.toList) (b : Triple) (cb : Array Value) (mb : triK.M w (fun _ => True) b cb.toList) (c : Triple) (cc : Array Value) (mc : triK.M w (fun _ => True) c cc.toList) :
    Calls Tryz.prog 4 #[.agg ca, .agg cb, .agg cc] w fun e w' => e = .returned (.bool true) ∧ Below w.heap.size w w' := by
  rw [(agg_of ma).1, (agg_of mb).1, (agg_of mc).1]
  exact walk0 w he a b c (agg_of ma).2 (agg_of mb).2 (agg_of mc).2
end Go.Proofs.YtmcoloapiiakbaaGreatDoor.LOrder
