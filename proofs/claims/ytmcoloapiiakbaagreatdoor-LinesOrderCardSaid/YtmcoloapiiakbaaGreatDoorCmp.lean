/-
  How the program sets terms and triples in order.
-/
import Derived.Test.YtmcoloapiiakbaaGreatDoorShow2
import Derived.Test.YtmcoloapiiakbaaGreatDoorTri
import Derived.Test.YtmcoloapiiakbaaGreatDoorQT
import Derived.Test.YtmcoloapiiakbaaGreatDoorSortPure
import Derived.Test.YtmcoloapiiakbaaGreatDoorPrint
import Derived.Sort.Walk0
set_option linter.unusedVariables false
set_option linter.unusedSimpArgs false
namespace Go.Proofs.YtmcoloapiiakbaaGreatDoor.Cmp
open Go.RowKit Go.Lib Go.Proofs.YtmcoloapiiakbaaGreatDoor.B Go.Proofs.YtmcoloapiiakbaaGreatDoor.Rd Go.Proofs.YtmcoloapiiakbaaGreatDoor.Utf Go.Proofs.YtmcoloapiiakbaaGreatDoor.TermPure Go.Proofs.YtmcoloapiiakbaaGreatDoor.LinesPure Go.Proofs.YtmcoloapiiakbaaGreatDoor.Tx Go.Proofs.YtmcoloapiiakbaaGreatDoor.Env Go.Proofs.YtmcoloapiiakbaaGreatDoor.Tri Go.Proofs.YtmcoloapiiakbaaGreatDoor.SortP Go.Proofs.YtmcoloapiiakbaaGreatDoor.Print

theorem less_eq (a b : List UInt8) : Op.bytesLess (mkS a).toList (mkS b).toList = decide (a < b) := by rw [mkS_toList, mkS_toList, Go.Proofs.bytesLess_eq]
theorem beq_eq (a b : List UInt8) : ((mkS a).toList == (mkS b).toList) = decide (a = b) := by
  rw [mkS_toList, mkS_toList]
  by_cases h : a = b <;> simp [h]
theorem isNaN_calls (a : List UInt8) (w : World) : Calls Tryz.prog 89 #[.string (mkS a)] w fun e w' => e = .returned (.bool false) ∧ w = w' := by
  go_enter Tryz.func89, Tryz.ntmps89
  go_wp2
  go_ret
  exact ⟨rfl, rfl⟩
theorem compare_calls (a b : List UInt8) (w : World) : Calls Tryz.prog 63 #[.string (mkS a), .string (mkS b)] w fun e w' => e = .returned (.int .i64 (SortP.cmpL a b)) ∧ w = w' := by
  have h1 := less_eq a b
  have h2 := beq_eq a b
  have HC : Hid (SortP.cmpL a b = if a < b then -1 else if b < a then 1 else 0) := Lib.hid rfl
  by_cases l1 : a < b
  · rw [decide_eq_true l1] at h1
    have HV : Hid (SortP.cmpL a b = -1) := Lib.hid (by rw [HC.out, if_pos l1])
    clear l1 HC h2
    go_enter Tryz.func63, Tryz.ntmps63
    go_wp2_with fail
    refine (isNaN_calls a w).mono ?_
    rintro e w1 ⟨rfl, rfl⟩
    go_wp2_with fail
    refine (isNaN_calls b w).mono ?_
    rintro e w1 ⟨rfl, rfl⟩
    go_wp2
    go_ret
    exact ⟨by rw [HV.out]; rfl, rfl⟩
  · rw [decide_eq_false l1] at h1
    by_cases l2 : a = b
    · rw [decide_eq_true l2] at h2
      have HV : Hid (SortP.cmpL a b = 0) := Lib.hid ((SortP.cmpL_zero a b).2 l2)
      clear l1 l2 HC
      go_enter Tryz.func63, Tryz.ntmps63
      go_wp2_with fail
      refine (isNaN_calls a w).mono ?_
      rintro e w1 ⟨rfl, rfl⟩
      go_wp2_with fail
      refine (isNaN_calls b w).mono ?_
      rintro e w1 ⟨rfl, rfl⟩
      go_wp2
      go_ret
      exact ⟨by rw [HV.out]; rfl, rfl⟩
    · rw [decide_eq_false l2] at h2
      have HV : Hid (SortP.cmpL a b = 1) := Lib.hid (by
        rcases SortP.cmpL_three a b with h | h | h
        · exact absurd ((SortP.cmpL_neg a b).1 (by rw [h]; decide)) l1
        · exact absurd ((SortP.cmpL_zero a b).1 h) l2
        · exact h)
      clear l1 l2 HC
      go_enter Tryz.func63, Tryz.ntmps63
      go_wp2_with fail
      refine (isNaN_calls a w).mono ?_
      rintro e w1 ⟨rfl, rfl⟩
      go_wp2_with fail
      refine (isNaN_calls b w).mono ?_
      rintro e w1 ⟨rfl, rfl⟩
      go_wp2
      go_ret
      exact ⟨by rw [HV.out]; rfl, rfl⟩
def SmallM (t : Term) : Prop := t.text.length ≤ 1099511627776 ∧ t.extra.length ≤ 1099511627776
/-- Two boxes. -/
theorem box2 (w : World) (k : Int) (x ex : List UInt8) (k' : Int) (x' ex' : List UInt8) (p : QT.Bel ((w.alloc (.cells #[.int .i64 k, .string (mkS x), .string (mkS ex)] 23)).alloc (.cells #[.int .i64 k', .string (mkS x'), .string (mkS ex')] 23))) :
    (p.w.cell? ⟨w.heap.size, 0, none⟩ = some (.int .i64 k) ∧ p.w.cell? ⟨w.heap.size, 1, none⟩ = some (.string (mkS x)) ∧ p.w.cell? ⟨w.heap.size, 2, none⟩ = some (.string (mkS ex))) ∧
    (p.w.cell? ⟨w.heap.size + 1, 0, none⟩ = some (.int .i64 k') ∧ p.w.cell? ⟨w.heap.size + 1, 1, none⟩ = some (.string (mkS x')) ∧ p.w.cell? ⟨w.heap.size + 1, 2, none⟩ = some (.string (mkS ex'))) := by
  have ht := (Tc.TC.new w ⟨k, x, ex⟩).alloc (.cells #[.int .i64 k', .string (mkS x'), .string (mkS ex')] 23)
  have ht' := Tc.TC.new (w.alloc (.cells #[.int .i64 k, .string (mkS x), .string (mkS ex)] 23)) ⟨k', x', ex'⟩
  rw [show (w.alloc (.cells #[.int .i64 k, .string (mkS x), .string (mkS ex)] 23)).heap.size = w.heap.size + 1 by simp] at ht'
  exact ⟨⟨p.cell ht.c0, p.cell ht.c1, p.cell ht.c2⟩, p.cell ht'.c0, p.cell ht'.c1, p.cell ht'.c2⟩
set_option maxHeartbeats 1600000 in
theorem termCmp_calls (a b : Term) (ha : SmallM a) (hb : SmallM b) (w : World) : Calls Tryz.prog 35 #[Ref5.termV a, Ref5.termV b] w fun e w' => e = .returned (.int .i64 (cmpTm a b)) ∧ Below w.heap.size w w' := by
  obtain ⟨k, x, ex⟩ := a
  obtain ⟨k', x', ex'⟩ := b
  have H1 := Lib.hid (fun w => Show.show_calls ⟨k, x, ex⟩ (Nat.le_trans ha.1 (by decide)) (Nat.le_trans ha.2 (by decide)) w)
  have H2 := Lib.hid (fun w => Show.show_calls ⟨k', x', ex'⟩ (Nat.le_trans hb.1 (by decide)) (Nat.le_trans hb.2 (by decide)) w)
  have H3 := Lib.hid (fun w => (compare_calls (shown ⟨k, x, ex⟩) (shown ⟨k', x', ex'⟩) w).mono (fun e w' (h : e = .returned (.int .i64 (SortP.cmpL (shown ⟨k, x, ex⟩) (shown ⟨k', x', ex'⟩))) ∧ w = w') => (⟨h.1, by rw [h.2]; exact Below.refl _ _⟩ : e = .returned (.int .i64 (SortP.cmpL (shown ⟨k, x, ex⟩) (shown ⟨k', x', ex'⟩))) ∧ Below w.heap.size w w')))
  have HV : Hid (cmpTm ⟨k, x, ex⟩ ⟨k', x', ex'⟩ = SortP.cmpL (shown ⟨k, x, ex⟩) (shown ⟨k', x', ex'⟩)) := Lib.hid rfl
  generalize shown ⟨k, x, ex⟩ = S1 at *
  generalize shown ⟨k', x', ex'⟩ = S2 at *
  have HX := Lib.hid (fun p => box2 w k x ex k' x' ex' p)
  have HBe := Lib.hid (bel_alloc (bel_alloc (Below.refl w.heap.size w) (.cells #[.int .i64 k, .string (mkS x), .string (mkS ex)] 23)) (.cells #[.int .i64 k', .string (mkS x'), .string (mkS ex')] 23))
  have a0 := fun p => (HX.out p).1.1
  have a1 := fun p => (HX.out p).1.2.1
  have a2 := fun p => (HX.out p).1.2.2
  have b0 := fun p => (HX.out p).2.1
  have b1 := fun p => (HX.out p).2.2.1
  have b2 := fun p => (HX.out p).2.2.2
  unfold Ref5.termV
  dsimp only
  clear ha hb
  go_enter Tryz.func35, Tryz.ntmps35
  go_upto_region 1 with fail
  refine QT.region_all (by kernel_rfl) (by kernel_rfl) ?_
  iterate 1 (go_big_quiet_step (fail))
  go_big_quiet_step (exact QT.Bel.call _ (H1.out _))
  iterate 1 (go_big_quiet_step (fail))
  go_big_quiet_step (exact QT.Bel.call _ (H2.out _))
  go_big_quiet_step (exact QT.Bel.call _ (H3.out _))
  repeat (go_big_quiet_step (fail))
  refine wpQuiet_nil ?_
  intro w2 hw'
  obtain ⟨⟨_, hb⟩, rfl⟩ := hw'
  have HB := Lib.hid (bel_step HBe.out hb)
  clear hb a0 a1 a2 b0 b1 b2
  go_wp2
  go_ret
  exact ⟨by rw [HV.out]; rfl, HB.out⟩
set_option maxHeartbeats 1600000 in
theorem or_calls (x y z : Int) (g : Nat) (w : World) (c0 : w.cell? ⟨g, 0, none⟩ = some (.int .i64 x)) (c1 : w.cell? ⟨g, 1, none⟩ = some (.int .i64 y)) (c2 : w.cell? ⟨g, 2, none⟩ = some (.int .i64 z)) :
    Calls Tryz.prog 34 #[.slice (some ⟨g, 0, none⟩) 3 3] w fun e w' => e = .returned (.int .i64 (orI x y z)) ∧ w = w' := by
  go_enter Tryz.func34, Tryz.ntmps34
  go_wp2
  go_loopw [5, 8] (fun v5 vi wr => ∃ k : Nat, k ≤ 3 ∧ vi = .int .i64 k ∧ wr = w ∧ (1 ≤ k → x = 0) ∧ (2 ≤ k → y = 0) ∧ (3 ≤ k → z = 0)) (fun _ vi _ => 3 - (intOf vi).toNat)
  case atStart => exact ⟨0, by omega, by first | rfl | trivial, by first | rfl | trivial, fun h => absurd h (by omega), fun h => absurd h (by omega), fun h => absurd h (by omega)⟩
  case round =>
    obtain ⟨k, hk, rfl, rfl, h1, h2, h3⟩ := hrel
    have hk4 : k = 0 ∨ k = 1 ∨ k = 2 ∨ k = 3 := by omega
    rcases hk4 with rfl | rfl | rfl | rfl
    · clear h1 h2 h3
      by_cases h : x = 0
      · have hn : (x != 0) = false := by simp [h]
        have HZ := Lib.hid h
        clear h
        go_wp2
        go_roundw
        case rel => exact ⟨1, by omega, by first | rfl | trivial, by first | rfl | trivial, fun _ => HZ.out, fun h => absurd h (by omega), fun h => absurd h (by omega)⟩
        case measure => simp [intOf]
      · have hn : (x != 0) = true := by simp [h]
        have HV : Hid (orI x y z = x) := Lib.hid (by unfold orI; rw [if_pos h])
        clear h
        go_wp2
        go_ret
        exact ⟨by rw [HV.out]; rfl, rfl⟩
    · have H1 := Lib.hid (h1 (by omega))
      clear h1 h2 h3
      by_cases h : y = 0
      · have hn : (y != 0) = false := by simp [h]
        have HZ := Lib.hid h
        clear h
        go_wp2
        go_roundw
        case rel => exact ⟨2, by omega, by first | rfl | trivial, by first | rfl | trivial, fun _ => H1.out, fun _ => HZ.out, fun h => absurd h (by omega)⟩
        case measure => simp [intOf]
      · have hn : (y != 0) = true := by simp [h]
        have HV : Hid (orI x y z = y) := Lib.hid (by unfold orI; rw [if_neg (by simp [H1.out]), if_pos h])
        clear h
        go_wp2
        go_ret
        exact ⟨by rw [HV.out]; rfl, rfl⟩
    · have H1 := Lib.hid (h1 (by omega))
      have H2 := Lib.hid (h2 (by omega))
      clear h1 h2 h3
      by_cases h : z = 0
      · have hn : (z != 0) = false := by simp [h]
        have HZ := Lib.hid h
        clear h
        go_wp2
        go_roundw
        case rel => exact ⟨3, by omega, by first | rfl | trivial, by first | rfl | trivial, fun _ => H1.out, fun _ => H2.out, fun _ => HZ.out⟩
        case measure => simp [intOf]
      · have hn : (z != 0) = true := by simp [h]
        have HV : Hid (orI x y z = z) := Lib.hid (by unfold orI; rw [if_neg (by simp [H1.out]), if_neg (by simp [H2.out])])
        clear h
        go_wp2
        go_ret
        exact ⟨by rw [HV.out]; rfl, rfl⟩
    · have HV : Hid (orI x y z = 0) := Lib.hid (by unfold orI; rw [if_neg (by simp [h1 (by omega)]), if_neg (by simp [h2 (by omega)]), h3 (by omega)])
      clear h1 h2 h3
      go_wp2
      go_ret
      exact ⟨by rw [HV.out]; rfl, rfl⟩
/-- Two boxes of triples. -/
theorem box18 (w : World) (a b : Triple) (p : QT.Bel ((w.alloc (.cells #[.int .i64 a.s.kind, .string (mkS a.s.text), .string (mkS a.s.extra), .int .i64 a.p.kind, .string (mkS a.p.text), .string (mkS a.p.extra), .int .i64 a.o.kind, .string (mkS a.o.text), .string (mkS a.o.extra)] 25)).alloc (.cells #[.int .i64 b.s.kind, .string (mkS b.s.text), .string (mkS b.s.extra), .int .i64 b.p.kind, .string (mkS b.p.text), .string (mkS b.p.extra), .int .i64 b.o.kind, .string (mkS b.o.text), .string (mkS b.o.extra)] 25))) :
    (p.w.cell? ⟨w.heap.size, 0, none⟩ = some (.int .i64 a.s.kind) ∧ p.w.cell? ⟨w.heap.size, 1, none⟩ = some (.string (mkS a.s.text)) ∧ p.w.cell? ⟨w.heap.size, 2, none⟩ = some (.string (mkS a.s.extra)) ∧ p.w.cell? ⟨w.heap.size, 3, none⟩ = some (.int .i64 a.p.kind) ∧ p.w.cell? ⟨w.heap.size, 4, none⟩ = some (.string (mkS a.p.text)) ∧ p.w.cell? ⟨w.heap.size, 5, none⟩ = some (.string (mkS a.p.extra)) ∧ p.w.cell? ⟨w.heap.size, 6, none⟩ = some (.int .i64 a.o.kind) ∧ p.w.cell? ⟨w.heap.size, 7, none⟩ = some (.string (mkS a.o.text)) ∧ p.w.cell? ⟨w.heap.size, 8, none⟩ = some (.string (mkS a.o.extra))) ∧
    (p.w.cell? ⟨w.heap.size + 1, 0, none⟩ = some (.int .i64 b.s.kind) ∧ p.w.cell? ⟨w.heap.size + 1, 1, none⟩ = some (.string (mkS b.s.text)) ∧ p.w.cell? ⟨w.heap.size + 1, 2, none⟩ = some (.string (mkS b.s.extra)) ∧ p.w.cell? ⟨w.heap.size + 1, 3, none⟩ = some (.int .i64 b.p.kind) ∧ p.w.cell? ⟨w.heap.size + 1, 4, none⟩ = some (.string (mkS b.p.text)) ∧ p.w.cell? ⟨w.heap.size + 1, 5, none⟩ = some (.string (mkS b.p.extra)) ∧ p.w.cell? ⟨w.heap.size + 1, 6, none⟩ = some (.int .i64 b.o.kind) ∧ p.w.cell? ⟨w.heap.size + 1, 7, none⟩ = some (.string (mkS b.o.text)) ∧ p.w.cell? ⟨w.heap.size + 1, 8, none⟩ = some (.string (mkS b.o.extra))) := by
  have ht := (Ref5.T9.new w a).alloc (.cells #[.int .i64 b.s.kind, .string (mkS b.s.text), .string (mkS b.s.extra), .int .i64 b.p.kind, .string (mkS b.p.text), .string (mkS b.p.extra), .int .i64 b.o.kind, .string (mkS b.o.text), .string (mkS b.o.extra)] 25)
  have ht' := Ref5.T9.new (w.alloc (.cells #[.int .i64 a.s.kind, .string (mkS a.s.text), .string (mkS a.s.extra), .int .i64 a.p.kind, .string (mkS a.p.text), .string (mkS a.p.extra), .int .i64 a.o.kind, .string (mkS a.o.text), .string (mkS a.o.extra)] 25)) b
  rw [show (w.alloc (.cells #[.int .i64 a.s.kind, .string (mkS a.s.text), .string (mkS a.s.extra), .int .i64 a.p.kind, .string (mkS a.p.text), .string (mkS a.p.extra), .int .i64 a.o.kind, .string (mkS a.o.text), .string (mkS a.o.extra)] 25)).heap.size = w.heap.size + 1 by simp] at ht'
  exact ⟨⟨p.cell ht.s.c0, p.cell ht.s.c1, p.cell ht.s.c2, p.cell ht.p.c0, p.cell ht.p.c1, p.cell ht.p.c2, p.cell ht.o.c0, p.cell ht.o.c1, p.cell ht.o.c2⟩, p.cell ht'.s.c0, p.cell ht'.s.c1, p.cell ht'.s.c2, p.cell ht'.p.c0, p.cell ht'.p.c1, p.cell ht'.p.c2, p.cell ht'.o.c0, p.cell ht'.o.c1, p.cell ht'.o.c2⟩
set_option maxHeartbeats 3200000 in
set_option maxRecDepth 100000 in
theorem cmp_calls (a b : Triple) (ha : SmallT a) (hb : SmallT b) (w : World) : Calls Tryz.prog 15 #[Ref5.tripleV a, Ref5.tripleV b] w fun e w' => e = .returned (.int .i64 (cmpT a b)) ∧ Below w.heap.size w w' := by
  have HX := Lib.hid (fun p => box18 w a b p)
  have H1 := Lib.hid (fun w => termCmp_calls a.s b.s ha.1 hb.1 w)
  have H2 := Lib.hid (fun w => termCmp_calls a.p b.p ha.2.1 hb.2.1 w)
  have H3 := Lib.hid (fun w => termCmp_calls a.o b.o ha.2.2 hb.2.2 w)
  have HV : Hid (cmpT a b = orI (cmpTm a.s b.s) (cmpTm a.p b.p) (cmpTm a.o b.o)) := Lib.hid rfl
  have HBe := Lib.hid (bel_alloc (bel_alloc (Below.refl w.heap.size w) (.cells #[.int .i64 a.s.kind, .string (mkS a.s.text), .string (mkS a.s.extra), .int .i64 a.p.kind, .string (mkS a.p.text), .string (mkS a.p.extra), .int .i64 a.o.kind, .string (mkS a.o.text), .string (mkS a.o.extra)] 25)) (.cells #[.int .i64 b.s.kind, .string (mkS b.s.text), .string (mkS b.s.extra), .int .i64 b.p.kind, .string (mkS b.p.text), .string (mkS b.p.extra), .int .i64 b.o.kind, .string (mkS b.o.text), .string (mkS b.o.extra)] 25))
  generalize cmpTm a.s b.s = v1 at *
  generalize cmpTm a.p b.p = v2 at *
  generalize cmpTm a.o b.o = v3 at *
  obtain ⟨⟨sk, sx, se⟩, ⟨pk, px, pe⟩, ⟨ok, ox, oe⟩⟩ := a
  obtain ⟨⟨sk', sx', se'⟩, ⟨pk', px', pe'⟩, ⟨ok', ox', oe'⟩⟩ := b
  unfold Ref5.tripleV
  dsimp only
  clear ha hb
  have a0 := fun p => (HX.out p).1.1
  have a1 := fun p => (HX.out p).1.2.1
  have a2 := fun p => (HX.out p).1.2.2.1
  have a3 := fun p => (HX.out p).1.2.2.2.1
  have a4 := fun p => (HX.out p).1.2.2.2.2.1
  have a5 := fun p => (HX.out p).1.2.2.2.2.2.1
  have a6 := fun p => (HX.out p).1.2.2.2.2.2.2.1
  have a7 := fun p => (HX.out p).1.2.2.2.2.2.2.2.1
  have a8 := fun p => (HX.out p).1.2.2.2.2.2.2.2.2
  have b0 := fun p => (HX.out p).2.1
  have b1 := fun p => (HX.out p).2.2.1
  have b2 := fun p => (HX.out p).2.2.2.1
  have b3 := fun p => (HX.out p).2.2.2.2.1
  have b4 := fun p => (HX.out p).2.2.2.2.2.1
  have b5 := fun p => (HX.out p).2.2.2.2.2.2.1
  have b6 := fun p => (HX.out p).2.2.2.2.2.2.2.1
  have b7 := fun p => (HX.out p).2.2.2.2.2.2.2.2.1
  have b8 := fun p => (HX.out p).2.2.2.2.2.2.2.2.2
  dsimp only at a0 a1 a2 a3 a4 a5 a6 a7 a8 b0 b1 b2 b3 b4 b5 b6 b7 b8
  go_enter Tryz.func15, Tryz.ntmps15
  go_upto_region 1 with fail
  refine QT.region_bel 15 (by kernel_rfl) (by kernel_rfl) ?_
  simp only [List.take_succ_cons, List.take_zero, List.drop_succ_cons, List.drop_zero]
  iterate 4 (go_big_quiet_step (fail))
  go_big_quiet_step (exact QT.Bel.call _ (H1.out _))
  iterate 4 (go_big_quiet_step (fail))
  go_big_quiet_step (exact QT.Bel.call _ (H2.out _))
  iterate 4 (go_big_quiet_step (fail))
  go_big_quiet_step (exact QT.Bel.call _ (H3.out _))
  refine wpQuiet_nil ?_
  intro w2 hw'
  obtain ⟨⟨_, hb⟩, rfl⟩ := hw'
  have HB := Lib.hid (bel_alloc (bel_step HBe.out hb) (.cells #[.int .i64 v1, .int .i64 v2, .int .i64 v3] 3))
  clear hb a0 a1 a2 a3 a4 a5 a6 a7 a8 b0 b1 b2 b3 b4 b5 b6 b7 b8
  go_wp2_with fail
  refine (or_calls v1 v2 v3 _ _ (by unfold World.cell?; dsimp only; rw [Kd.heap_new]; rfl) (by unfold World.cell?; dsimp only; rw [Kd.heap_new]; rfl) (by unfold World.cell?; dsimp only; rw [Kd.heap_new]; rfl)).mono ?_
  rintro e w3 ⟨rfl, rfl⟩
  go_wp2
  go_ret
  exact ⟨by rw [HV.out]; rfl, HB.out⟩
end Go.Proofs.YtmcoloapiiakbaaGreatDoor.Cmp
