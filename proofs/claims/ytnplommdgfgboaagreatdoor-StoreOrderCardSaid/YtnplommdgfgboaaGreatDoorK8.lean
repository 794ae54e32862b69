/-
  Texts of the claim, one behind the other: Put, RefSort, Same, FrontP, PackP, CrcPure, BoxPure, StoreP, FrontW, FrontB, IdsW, IdsAll, RingAll.
-/
import Derived.Test.YtnplommdgfgboaaGreatDoorK7
import Derived.Lib.ItoaNum
set_option linter.unusedVariables false
set_option linter.unusedSimpArgs false
namespace Go.Proofs.YtnplommdgfgboaaGreatDoor.SortW
open Go.RowKit Go.Lib Go.Proofs.YtnplommdgfgboaaGreatDoor.B Go.Proofs.YtnplommdgfgboaaGreatDoor.Rd Go.Proofs.YtnplommdgfgboaaGreatDoor.Utf Go.Proofs.YtnplommdgfgboaaGreatDoor.TermPure Go.Proofs.YtnplommdgfgboaaGreatDoor.LinesPure Go.Proofs.YtnplommdgfgboaaGreatDoor.Tx Go.Proofs.YtnplommdgfgboaaGreatDoor.Env Go.Proofs.YtnplommdgfgboaaGreatDoor.Tri Go.Proofs.YtnplommdgfgboaaGreatDoor.SortP Go.Proofs.YtnplommdgfgboaaGreatDoor.Print Go.Proofs.YtnplommdgfgboaaGreatDoor.Cmp Go.Proofs.YtnplommdgfgboaaGreatDoor.Long
theorem cellsT : (Tryz.prog).cellsOf 36 = triK.sz := by kernel_rfl
theorem nine {w : World} {g : Nat} {t : Triple} (h : C9 w g 0 t) : w.cell? ⟨g, 0, none⟩ = some (.int .i64 t.s.kind) ∧ w.cell? ⟨g, 1, none⟩ = some (.string (mkS t.s.text)) ∧ w.cell? ⟨g, 2, none⟩ = some (.string (mkS t.s.extra)) ∧ w.cell? ⟨g, 3, none⟩ = some (.int .i64 t.p.kind) ∧ w.cell? ⟨g, 4, none⟩ = some (.string (mkS t.p.text)) ∧ w.cell? ⟨g, 5, none⟩ = some (.string (mkS t.p.extra)) ∧ w.cell? ⟨g, 6, none⟩ = some (.int .i64 t.o.kind) ∧ w.cell? ⟨g, 7, none⟩ = some (.string (mkS t.o.text)) ∧ w.cell? ⟨g, 8, none⟩ = some (.string (mkS t.o.extra)) := by
  obtain ⟨c0, c1, c2, c3, c4, c5, c6, c7, c8⟩ := h
  simp only [Nat.zero_add] at *
  exact ⟨c0, c1, c2, c3, c4, c5, c6, c7, c8⟩
theorem one_grown {W w1 : World} {g : Nat} {r : Option Nat} {t : Triple} (ht : FitsW3 t) (h : C9 W g 0 t) (hg : W.grownBy w1 r) (hne : some g ≠ r) : triK.sl.M w1 (fun _ => True) [t] [.slice (some ⟨g, 0, none⟩) 1 1] := by
  refine ⟨some ⟨g, 0, none⟩, 1, rfl, Nat.le_refl _, ⟨by simp, by unfold maxLen; omega⟩, fun h => (by cases h), fun i x hx => ?_⟩
  cases i with
  | zero =>
    simp at hx
    subst hx
    refine ⟨_, triL t, rfl, trivial, ⟨rfl, ht⟩, fun j u hu => ?_⟩
    rw [Nat.zero_mul, Nat.zero_add, add_plain]
    obtain ⟨c0, c1, c2, c3, c4, c5, c6, c7, c8⟩ := h.moved (hg.block g h.lt hne)
    have hj : j < 9 := (List.getElem?_eq_some_iff.1 hu).1
    match j, hj with
    | 0, _ => cases hu; exact c0
    | 1, _ => cases hu; exact c1
    | 2, _ => cases hu; exact c2
    | 3, _ => cases hu; exact c3
    | 4, _ => cases hu; exact c4
    | 5, _ => cases hu; exact c5
    | 6, _ => cases hu; exact c6
    | 7, _ => cases hu; exact c7
    | 8, _ => cases hu; exact c8
  | succ i => simp at hx
theorem own0_1 (w : World) : triK.own 36 (w.alloc (.cells #[] 36)) w.heap.size TT (.slice (some ⟨w.heap.size, 0, none⟩) 0 0) [] :=
  Kd.own_block (cells := []) (xs := []) (Nat.le_refl _) (Kd.heap_new _ _) rfl (by simp) (fun i x h => by simp at h)
theorem own0_2 (w : World) (o : Obj) : triK.own 36 ((w.alloc o).alloc (.cells #[] 36)) w.heap.size TT (.slice (some ⟨w.heap.size + 1, 0, none⟩) 0 0) [] := by
  have h := own0_1 (w.alloc o)
  rw [show (w.alloc o).heap.size = w.heap.size + 1 by simp] at h
  exact Kd.own_lower (by omega) h
theorem C9_new1 (w : World) (o : Obj) (t : Triple) : C9 ((w.alloc o).alloc (.cells (triL t).toArray 36)).drew (w.heap.size + 1) 0 t := by
  have h := C9.new (w.alloc o) t
  rw [show (w.alloc o).heap.size = w.heap.size + 1 by simp] at h
  exact h.moved rfl
theorem C9_new2 (w : World) (t : Triple) (o : Obj) : C9 ((w.alloc (.cells (triL t).toArray 36)).alloc o).drew w.heap.size 0 t :=
  ((C9.new w t).alloc o).moved rfl
theorem putT_same : ∀ (l : List Triple) (t : Triple) (i : Nat) (hi : i < l.length), (∀ j (h : j < l.length), j < i → cmpT l[j] t < 0) → cmpT l[i] t = 0 → putT l t = l
  | [], _, _, h, _, _ => by simp at h
  | x :: l, t, 0, _, _, h0 => by
    simp at h0
    rw [putT, if_neg (by omega), if_pos h0]
  | x :: l, t, i + 1, hi, hlt, h0 => by
    have h1 := hlt 0 (by simp) (by omega)
    simp at h1
    rw [putT, if_pos h1, putT_same l t i (by simpa using hi) (fun j h hj => by have := hlt (j + 1) (by simpa using h) (by omega); simpa using this) (by simpa using h0)]
theorem putT_ins : ∀ (l : List Triple) (t : Triple) (i : Nat), i ≤ l.length → (∀ j (h : j < l.length), j < i → cmpT l[j] t < 0) → (∀ h : i < l.length, 0 < cmpT l[i] t) → putT l t = l.take i ++ [t] ++ l.drop i
  | [], _, i, _, _, _ => by simp [putT]
  | x :: l, t, 0, _, _, h0 => by
    have := h0 (by simp)
    simp at this
    rw [putT, if_neg (by omega), if_neg (by omega)]
    simp
  | x :: l, t, i + 1, hi, hlt, h0 => by
    have h1 := hlt 0 (by simp) (by omega)
    simp at h1
    rw [putT, if_pos h1, putT_ins l t i (by simpa using hi) (fun j h hj => by have := hlt (j + 1) (by simpa using h) (by omega); simpa using this) (fun h => by have := h0 (by simpa using h); simpa using this)]
    simp
set_option maxHeartbeats 12800000 in
set_option maxRecDepth 100000 in
theorem put_calls (l : List Triple) (t : Triple) (A : Option Addr) (c : Nat) (w : World) (HL : triK.sl.M w (fun k => k < w.heap.size) l [.slice A l.length c]) (hs : ∀ x ∈ l, SmallT x) (hst : SmallT t) (hft : FitsW3 t) (hb : l.length ≤ 1000000) :
    Calls Tryz.prog 50 #[.slice A l.length c, Ref5.tripleV t] w fun e w' => ∃ A' c', e = .returned (.slice A' (putT l t).length c') ∧ triK.sl.M w' TT (putT l t) [.slice A' (putT l t).length c'] ∧ Below w.heap.size w w' := by
  have HR := Lib.hid (row_cells HL)
  have HS := Lib.hid hs
  have HF := Lib.hid (row_fits HL)
  have h47 := sl_len HL
  obtain ⟨A', c', he, hlc, ⟨hl47, hcm⟩, hA, hrow⟩ := HL
  obtain ⟨rfl, rfl⟩ : A = A' ∧ c = c' := by simpa using he
  clear he
  have HROW : Hid (triK.row w TT A l) := Lib.hid (Kd.row_mono (fun _ _ _ => trivial) hrow)
  have HC0 := Lib.hid (C9.new w t)
  have HX : Hid (Ref5.tripleV t = .agg (triL t).toArray) := Lib.hid rfl
  clear hrow hs
  unfold Ref5.tripleV
  go_enter Tryz.func50, Tryz.ntmps50
  go_wp2
  go_loopw [5] (fun vi wr => ∃ i : Nat, vi = .int .i64 i ∧ i ≤ l.length ∧ Hid ((∀ j (h : j < l.length), j < i → cmpT l[j] t < 0) ∧ Below w.heap.size w wr ∧ C9 wr w.heap.size 0 t)) (fun vi _ => l.length - (intOf vi).toNat)
  case atStart => exact ⟨0, rfl, by omega, Lib.hid ⟨fun j h hj => by omega, bel_alloc (Below.refl _ _) _, HC0.out⟩⟩
  case round =>
    obtain ⟨i, rfl, hiL, HI⟩ := hrel
    clear HC0
    by_cases hlt : i < l.length
    · have hd : decide (i < l.length) = true := decide_eq_true hlt
      have ik : (i : Int) < (l.length : Int) := by omega
      obtain ⟨b, off, rfl, hbs, hcells⟩ := HR.out i hlt
      have hcx := (hcells i hlt).below HI.out.2.1
      have hcy := HI.out.2.2
      obtain ⟨x, hx⟩ : ∃ x, x = l[i] := ⟨_, rfl⟩
      rw [← hx] at hcx
      have HCC := Lib.hid (fun w => RefCmp.cmp5_calls x t (by rw [hx]; exact HS.out _ (List.getElem_mem hlt)) hst w)
      obtain ⟨v, hv⟩ : ∃ v, v = cmpT x t := ⟨_, rfl⟩
      rw [← hv] at HCC
      have HNext : Hid (v < 0 → ∀ j (h : j < l.length), j < i + 1 → cmpT l[j] t < 0) := Lib.hid (fun h j hj hji => by
        by_cases e : j = i
        · subst e
          rw [← hx, ← hv]
          exact h
        · exact HI.out.1 j hj (by omega))
      have HSame : Hid (v = 0 → putT l t = l) := Lib.hid (fun h => putT_same l t i hlt HI.out.1 (by rw [← hx, ← hv]; exact h))
      have HIns : Hid (0 < v → putT l t = l.take i ++ [t] ++ l.drop i) := Lib.hid (fun h => putT_ins l t i hiL HI.out.1 (fun h2 => by rw [← hx, ← hv]; exact h))
      have HIW := Lib.hid HI.out.2
      clear hcells hx hv
      by_cases hv0 : v < 0
      · have hvd : decide (v < 0) = true := decide_eq_true hv0
        have HNx := Lib.hid (HNext.out hv0)
        clear HNext HSame HIns hv0
        obtain ⟨⟨sk, sx, se⟩, ⟨pk, px, pe⟩, ⟨ok, ox, oe⟩⟩ := x
        obtain ⟨⟨sk', sx', se'⟩, ⟨pk', px', pe'⟩, ⟨ok', ox', oe'⟩⟩ := t
        have x0 := fun p => (hcx.bel p).c0
        have x1 := fun p => (hcx.bel p).c1
        have x2 := fun p => (hcx.bel p).c2
        have x3 := fun p => (hcx.bel p).c3
        have x4 := fun p => (hcx.bel p).c4
        have x5 := fun p => (hcx.bel p).c5
        have x6 := fun p => (hcx.bel p).c6
        have x7 := fun p => (hcx.bel p).c7
        have x8 := fun p => (hcx.bel p).c8
        have y0 := fun p => (hcy.bel p).c0
        have y1 := fun p => (hcy.bel p).c1
        have y2 := fun p => (hcy.bel p).c2
        have y3 := fun p => (hcy.bel p).c3
        have y4 := fun p => (hcy.bel p).c4
        have y5 := fun p => (hcy.bel p).c5
        have y6 := fun p => (hcy.bel p).c6
        have y7 := fun p => (hcy.bel p).c7
        have y8 := fun p => (hcy.bel p).c8
        dsimp only at x0 x1 x2 x3 x4 x5 x6 x7 x8 y0 y1 y2 y3 y4 y5 y6 y7 y8
        unfold Ref5.tripleV at HCC
        dsimp only at HCC
        go_upto_region 2 with fail
        refine QT.region_all (by kernel_rfl) (by kernel_rfl) ?_
        iterate 10 (go_big_quiet_step (fail))
        go_big_quiet_step (exact QT.Bel.call _ (HCC.out _))
        iterate 2 (go_big_quiet_step (fail))
        refine wpQuiet_nil ?_
        intro w2 hw'
        obtain ⟨⟨_, hb⟩, rfl⟩ := hw'
        have HW2 : Hid (Below w.heap.size w w2 ∧ C9 w2 w.heap.size 0 ⟨⟨sk', sx', se'⟩, ⟨pk', px', pe'⟩, ⟨ok', ox', oe'⟩⟩) := Lib.hid ⟨bel_step HIW.out.1 hb, hcy.below hb⟩
        clear hb x0 x1 x2 x3 x4 x5 x6 x7 x8 y0 y1 y2 y3 y4 y5 y6 y7 y8 hcx hcy HI HIW
        go_wp2
        go_roundw
        case rel => exact ⟨i + 1, by go_num, by omega, Lib.hid ⟨HNx.out, HW2.out⟩⟩
        case measure => simp [intOf]; omega
      · have hvd : decide (v < 0) = false := decide_eq_false hv0
        by_cases hve0 : v = 0
        · have hve : (v == 0) = true := by rw [hve0]; rfl
          have HPut := Lib.hid (HSame.out hve0)
          clear HNext HSame HIns hv0
          obtain ⟨⟨sk, sx, se⟩, ⟨pk, px, pe⟩, ⟨ok, ox, oe⟩⟩ := x
          obtain ⟨⟨sk', sx', se'⟩, ⟨pk', px', pe'⟩, ⟨ok', ox', oe'⟩⟩ := t
          have x0 := fun p => (hcx.bel p).c0
          have x1 := fun p => (hcx.bel p).c1
          have x2 := fun p => (hcx.bel p).c2
          have x3 := fun p => (hcx.bel p).c3
          have x4 := fun p => (hcx.bel p).c4
          have x5 := fun p => (hcx.bel p).c5
          have x6 := fun p => (hcx.bel p).c6
          have x7 := fun p => (hcx.bel p).c7
          have x8 := fun p => (hcx.bel p).c8
          have y0 := fun p => (hcy.bel p).c0
          have y1 := fun p => (hcy.bel p).c1
          have y2 := fun p => (hcy.bel p).c2
          have y3 := fun p => (hcy.bel p).c3
          have y4 := fun p => (hcy.bel p).c4
          have y5 := fun p => (hcy.bel p).c5
          have y6 := fun p => (hcy.bel p).c6
          have y7 := fun p => (hcy.bel p).c7
          have y8 := fun p => (hcy.bel p).c8
          dsimp only at x0 x1 x2 x3 x4 x5 x6 x7 x8 y0 y1 y2 y3 y4 y5 y6 y7 y8
          unfold Ref5.tripleV at HCC
          dsimp only at HCC
          go_upto_region 2 with fail
          refine QT.region_all (by kernel_rfl) (by kernel_rfl) ?_
          iterate 10 (go_big_quiet_step (fail))
          go_big_quiet_step (exact QT.Bel.call _ (HCC.out _))
          iterate 2 (go_big_quiet_step (fail))
          refine wpQuiet_nil ?_
          intro w2 hw'
          obtain ⟨⟨_, hb⟩, rfl⟩ := hw'
          have HW2 : Hid (Below w.heap.size w w2 ∧ C9 w2 w.heap.size 0 ⟨⟨sk', sx', se'⟩, ⟨pk', px', pe'⟩, ⟨ok', ox', oe'⟩⟩) := Lib.hid ⟨bel_step HIW.out.1 hb, hcy.below hb⟩
          have hcx := hcx.below hb
          have hcy := HW2.out.2
          clear hb x0 x1 x2 x3 x4 x5 x6 x7 x8 y0 y1 y2 y3 y4 y5 y6 y7 y8 HI HIW
          go_wp2
          have x0 := fun p => (hcx.bel p).c0
          have x1 := fun p => (hcx.bel p).c1
          have x2 := fun p => (hcx.bel p).c2
          have x3 := fun p => (hcx.bel p).c3
          have x4 := fun p => (hcx.bel p).c4
          have x5 := fun p => (hcx.bel p).c5
          have x6 := fun p => (hcx.bel p).c6
          have x7 := fun p => (hcx.bel p).c7
          have x8 := fun p => (hcx.bel p).c8
          have y0 := fun p => (hcy.bel p).c0
          have y1 := fun p => (hcy.bel p).c1
          have y2 := fun p => (hcy.bel p).c2
          have y3 := fun p => (hcy.bel p).c3
          have y4 := fun p => (hcy.bel p).c4
          have y5 := fun p => (hcy.bel p).c5
          have y6 := fun p => (hcy.bel p).c6
          have y7 := fun p => (hcy.bel p).c7
          have y8 := fun p => (hcy.bel p).c8
          dsimp only at x0 x1 x2 x3 x4 x5 x6 x7 x8 y0 y1 y2 y3 y4 y5 y6 y7 y8
          go_upto_region 4 with fail
          refine QT.region_all (by kernel_rfl) (by kernel_rfl) ?_
          iterate 10 (go_big_quiet_step (fail))
          go_big_quiet_step (exact QT.Bel.call _ (HCC.out _))
          iterate 2 (go_big_quiet_step (fail))
          refine wpQuiet_nil ?_
          intro w2 hw'
          obtain ⟨⟨_, hb⟩, rfl⟩ := hw'
          have HB3 := Lib.hid (bel_step HW2.out.1 hb)
          clear hb x0 x1 x2 x3 x4 x5 x6 x7 x8 y0 y1 y2 y3 y4 y5 y6 y7 y8 hcx hcy HW2
          go_wp2
          go_ret
          rw [HPut.out]
          exact ⟨_, _, rfl, ⟨_, _, rfl, hlc, ⟨hl47, hcm⟩, hA, Kd.row_below HROW.out HB3.out⟩, HB3.out⟩
        · have hve : (v == 0) = false := by rw [beq_eq_false_iff_ne]; exact hve0
          have HPut := Lib.hid (HIns.out (by omega))
          clear HNext HSame HIns hv0 hve0
          obtain ⟨⟨sk, sx, se⟩, ⟨pk, px, pe⟩, ⟨ok, ox, oe⟩⟩ := x
          obtain ⟨⟨sk', sx', se'⟩, ⟨pk', px', pe'⟩, ⟨ok', ox', oe'⟩⟩ := t
          have x0 := fun p => (hcx.bel p).c0
          have x1 := fun p => (hcx.bel p).c1
          have x2 := fun p => (hcx.bel p).c2
          have x3 := fun p => (hcx.bel p).c3
          have x4 := fun p => (hcx.bel p).c4
          have x5 := fun p => (hcx.bel p).c5
          have x6 := fun p => (hcx.bel p).c6
          have x7 := fun p => (hcx.bel p).c7
          have x8 := fun p => (hcx.bel p).c8
          have y0 := fun p => (hcy.bel p).c0
          have y1 := fun p => (hcy.bel p).c1
          have y2 := fun p => (hcy.bel p).c2
          have y3 := fun p => (hcy.bel p).c3
          have y4 := fun p => (hcy.bel p).c4
          have y5 := fun p => (hcy.bel p).c5
          have y6 := fun p => (hcy.bel p).c6
          have y7 := fun p => (hcy.bel p).c7
          have y8 := fun p => (hcy.bel p).c8
          dsimp only at x0 x1 x2 x3 x4 x5 x6 x7 x8 y0 y1 y2 y3 y4 y5 y6 y7 y8
          unfold Ref5.tripleV at HCC
          dsimp only at HCC
          go_upto_region 2 with fail
          refine QT.region_all (by kernel_rfl) (by kernel_rfl) ?_
          iterate 10 (go_big_quiet_step (fail))
          go_big_quiet_step (exact QT.Bel.call _ (HCC.out _))
          iterate 2 (go_big_quiet_step (fail))
          refine wpQuiet_nil ?_
          intro w2 hw'
          obtain ⟨⟨_, hb⟩, rfl⟩ := hw'
          have HW2 : Hid (Below w.heap.size w w2 ∧ C9 w2 w.heap.size 0 ⟨⟨sk', sx', se'⟩, ⟨pk', px', pe'⟩, ⟨ok', ox', oe'⟩⟩) := Lib.hid ⟨bel_step HIW.out.1 hb, hcy.below hb⟩
          have hcx := hcx.below hb
          have hcy := HW2.out.2
          clear hb x0 x1 x2 x3 x4 x5 x6 x7 x8 y0 y1 y2 y3 y4 y5 y6 y7 y8 HI HIW
          go_wp2
          have x0 := fun p => (hcx.bel p).c0
          have x1 := fun p => (hcx.bel p).c1
          have x2 := fun p => (hcx.bel p).c2
          have x3 := fun p => (hcx.bel p).c3
          have x4 := fun p => (hcx.bel p).c4
          have x5 := fun p => (hcx.bel p).c5
          have x6 := fun p => (hcx.bel p).c6
          have x7 := fun p => (hcx.bel p).c7
          have x8 := fun p => (hcx.bel p).c8
          have y0 := fun p => (hcy.bel p).c0
          have y1 := fun p => (hcy.bel p).c1
          have y2 := fun p => (hcy.bel p).c2
          have y3 := fun p => (hcy.bel p).c3
          have y4 := fun p => (hcy.bel p).c4
          have y5 := fun p => (hcy.bel p).c5
          have y6 := fun p => (hcy.bel p).c6
          have y7 := fun p => (hcy.bel p).c7
          have y8 := fun p => (hcy.bel p).c8
          dsimp only at x0 x1 x2 x3 x4 x5 x6 x7 x8 y0 y1 y2 y3 y4 y5 y6 y7 y8
          go_upto_region 4 with fail
          refine QT.region_all (by kernel_rfl) (by kernel_rfl) ?_
          iterate 10 (go_big_quiet_step (fail))
          go_big_quiet_step (exact QT.Bel.call _ (HCC.out _))
          iterate 2 (go_big_quiet_step (fail))
          refine wpQuiet_nil ?_
          intro w2 hw'
          obtain ⟨⟨_, hb⟩, rfl⟩ := hw'
          have HB3 := Lib.hid (bel_step HW2.out.1 hb)
          have hcz := hcy.below hb
          clear hb x0 x1 x2 x3 x4 x5 x6 x7 x8 y0 y1 y2 y3 y4 y5 y6 y7 y8 hcx hcy HW2
          go_wp2
          obtain ⟨A1, -, -, htake, hrow1⟩ := Kd.cut_run (P := Tryz.prog) triK 22 36 Tryz.underlying22 cellsT zeroV 120 info_tri (some ⟨b, off, none⟩) l.length c 0 i (Nat.zero_le _) hiL hlc ⟨hl47, hcm⟩ hA
          obtain ⟨A2, -, hdrop, -, hrow2⟩ := Kd.cut_run (P := Tryz.prog) triK 22 36 Tryz.underlying22 cellsT zeroV 120 info_tri (some ⟨b, off, none⟩) l.length c i l.length hiL (Nat.le_refl _) hlc ⟨hl47, hcm⟩ hA
          have HQ1 := Lib.hid (hrow1 w TT l rfl HROW.out)
          have HQ2 := Lib.hid (hrow2 w TT l rfl HROW.out)
          rw [List.drop_zero] at HQ1
          rw [List.take_length] at HQ2
          obtain ⟨pre, hpre⟩ : ∃ pre, pre = l.take i := ⟨_, rfl⟩
          obtain ⟨suf, hsuf⟩ : ∃ suf, suf = l.drop i := ⟨_, rfl⟩
          have hpl : pre.length = i := by rw [hpre, List.length_take]; omega
          have hsl : suf.length = l.length - i := by rw [hsuf, List.length_drop]
          have hs1 : ∀ (kh : IntKind) (w : World), (Instr.slice 22 (.slice (some ⟨b, off, none⟩) l.length c) none (some (.int kh (i : Int))) none).run Tryz.prog w = .ok (.slice A1 pre.length c) w := fun kh w => by rw [hpl]; exact htake kh w rfl
          obtain ⟨c2, hc2⟩ : ∃ c2, c2 = c - i := ⟨_, rfl⟩
          have hs2 : ∀ (kl : IntKind) (w : World), (Instr.slice 22 (.slice (some ⟨b, off, none⟩) l.length c) (some (.int kl (i : Int))) none none).run Tryz.prog w = .ok (.slice A2 suf.length c2) w := fun kl w => by rw [hsl, hc2]; exact hdrop kl w rfl
          rw [Nat.sub_zero, Nat.sub_zero, ← hpre, ← hpl] at HQ1
          rw [← hsuf, ← hsl, ← hc2] at HQ2
          rw [← hpre, ← hsuf] at HPut
          have hbp : pre.length ≤ 1000000 := by omega
          have hbs2 : suf.length ≤ 1000000 := by omega
          clear htake hdrop hrow1 hrow2 hpre hsuf hc2
          clear hpl hsl
          have HZ := Lib.hid hcz
          have hB := HB3.out
          have hY := Below.refl w2.heap.size w2
          obtain ⟨n0, n1, n2, n3, n4, n5, n6, n7, n8⟩ := hcz
          dsimp only at n0 n1 n2 n3 n4 n5 n6 n7 n8
          go_cut [4] (fun v4 wx => Hid (triK.own 36 wx w2.heap.size TT v4 (pre ++ [⟨⟨sk', sx', se'⟩, ⟨pk', px', pe'⟩, ⟨ok', ox', oe'⟩⟩] ++ suf)) ∧ Hid (Below w.heap.size w wx))
          case first =>
            go_region_held3 (fun w' => w'.cell? ⟨w.heap.size, 0, none⟩ = some (Value.int .i64 sk') ∧ w'.cell? ⟨w.heap.size, 1, none⟩ = some (Value.string (mkS sx')) ∧ w'.cell? ⟨w.heap.size, 2, none⟩ = some (Value.string (mkS se')) ∧ w'.cell? ⟨w.heap.size, 3, none⟩ = some (Value.int .i64 pk') ∧ w'.cell? ⟨w.heap.size, 4, none⟩ = some (Value.string (mkS px')) ∧ w'.cell? ⟨w.heap.size, 5, none⟩ = some (Value.string (mkS pe')) ∧ w'.cell? ⟨w.heap.size, 6, none⟩ = some (Value.int .i64 ok') ∧ w'.cell? ⟨w.heap.size, 7, none⟩ = some (Value.string (mkS ox')) ∧ w'.cell? ⟨w.heap.size, 8, none⟩ = some (Value.string (mkS oe')))
              (exact nine (HZ.out.below (by (repeat (first | assumption | exact Below.refl _ _ | refine bel_alloc ?_ _ | refine bel_drew ?_)))))
              (first
                | (refine Kd.own_app_step triK (w0 := w2) w2.heap.size (by rfl) (.tmp 35) (.tmp 38) 22 36 zeroV 120 (by rfl) Tryz.underlying22 info_tri rfl (by decide) (.slice (some ⟨w2.heap.size, 0, none⟩) 0 0) [] pre A1 c TT (by rfl) (by rfl) ?ho (.inr ⟨?hr, any_tri⟩) ?hb ?hs ?hl ?_; go_loud (case hl => simp; omega); go_loud (case ho => first | exact own0_1 _ | exact Kd.own_drew (own0_1 _) | exact Kd.own_drew (Kd.own_alloc (own0_1 _) _) | exact Kd.own_drew (own0_2 _ _)); go_loud (case hr => exact Kd.M_below HQ1.out (by (repeat (first | assumption | exact Below.refl _ _ | refine bel_alloc ?_ _ | refine bel_drew ?_)))); go_loud (case hb => repeat (first | assumption | exact Below.refl _ _ | refine bel_alloc ?_ _ | refine bel_drew ?_)); go_loud (case hs => simp; try omega); intro v1 w1 ho1 hb1 hg1 hv1; go_loud (rw [List.nil_append] at ho1); have HO1 := Lib.hid ho1; clear ho1 hv1)
                | (refine Kd.own_app_step triK (w0 := w2) w2.heap.size (by rfl) (.tmp 35) (.tmp 38) 22 36 zeroV 120 (by rfl) Tryz.underlying22 info_tri rfl (by decide) (.slice (some ⟨w2.heap.size + 1, 0, none⟩) 0 0) [] pre A1 c TT (by rfl) (by rfl) ?ho (.inr ⟨?hr, any_tri⟩) ?hb ?hs ?hl ?_; go_loud (case hl => simp; omega); go_loud (case ho => first | exact own0_1 _ | exact Kd.own_drew (own0_1 _) | exact Kd.own_drew (Kd.own_alloc (own0_1 _) _) | exact Kd.own_drew (own0_2 _ _)); go_loud (case hr => exact Kd.M_below HQ1.out (by (repeat (first | assumption | exact Below.refl _ _ | refine bel_alloc ?_ _ | refine bel_drew ?_)))); go_loud (case hb => repeat (first | assumption | exact Below.refl _ _ | refine bel_alloc ?_ _ | refine bel_drew ?_)); go_loud (case hs => simp; try omega); intro v1 w1 ho1 hb1 hg1 hv1; go_loud (rw [List.nil_append] at ho1); have HO1 := Lib.hid ho1; clear ho1 hv1)
                | (refine Kd.own_app_step triK (w0 := w2) w2.heap.size (by rfl) (.tmp 39) (.tmp 41) 22 36 zeroV 120 (by rfl) Tryz.underlying22 info_tri rfl (by decide) v1 pre [⟨⟨sk', sx', se'⟩, ⟨pk', px', pe'⟩, ⟨ok', ox', oe'⟩⟩] _ 1 TT (by rfl) (by rfl) ?ho (.inr ⟨?hr, any_tri⟩) ?hb ?hs ?hl ?_; go_loud (case hl => simp; omega); go_loud (case ho => repeat (first | exact HO1.out | refine Kd.own_drew ?_ | refine Kd.own_alloc ?_ _)); go_loud (case hr => first | exact triK.sl.mono (fun _ _ _ => trivial) (Known.one_row _ ⟨⟨sk', sx', se'⟩, ⟨pk', px', pe'⟩, ⟨ok', ox', oe'⟩⟩ hft) | (refine one_grown hft ?_ hg1 ?_; (first | exact C9_new1 _ _ ⟨⟨sk', sx', se'⟩, ⟨pk', px', pe'⟩, ⟨ok', ox', oe'⟩⟩ | exact C9_new2 _ ⟨⟨sk', sx', se'⟩, ⟨pk', px', pe'⟩, ⟨ok', ox', oe'⟩⟩ _); (simp [Value.ownBlock]))); go_loud (case hb => repeat (first | assumption | exact Below.refl _ _ | refine bel_alloc ?_ _ | refine bel_drew ?_)); go_loud (case hs => have := hb1.size; first | omega | (simp; omega)); intro v2 w4 ho2 hb2 hg2 hv2; have HO2 := Lib.hid ho2; clear ho2 hg2 hv2)
                | (refine Kd.own_app_step triK (w0 := w2) w2.heap.size (by rfl) (.tmp 42) (.tmp 45) 22 36 zeroV 120 (by rfl) Tryz.underlying22 info_tri rfl (by decide) v2 (pre ++ [⟨⟨sk', sx', se'⟩, ⟨pk', px', pe'⟩, ⟨ok', ox', oe'⟩⟩]) suf A2 c2 TT (by rfl) (by rfl) ?ho (.inr ⟨?hr, any_tri⟩) ?hb ?hs ?hl ?_; go_loud (case hl => simp; omega); go_loud (case ho => repeat (first | exact HO2.out | refine Kd.own_drew ?_ | refine Kd.own_alloc ?_ _)); go_loud (case hr => exact Kd.M_below HQ2.out (bel_step hB (by (repeat (first | assumption | exact Below.refl _ _ | refine bel_alloc ?_ _ | refine bel_drew ?_))))); go_loud (case hb => repeat (first | assumption | exact Below.refl _ _ | refine bel_alloc ?_ _ | refine bel_drew ?_)); go_loud (case hs => have := hb2.size; first | omega | (simp; omega)); intro v3 w5 ho3 hb3 hg3 hv3; have HO3 := Lib.hid ho3; clear ho3 hg3 hv3)
                | fail)
            all_goals (go_wp2_with fail; go_meet; exact ⟨HO3, Lib.hid (bel_step hB hb3)⟩)
          case rest =>
            obtain ⟨HO, HB6⟩ := hcut
            obtain ⟨A9, c9, rfl, _, _⟩ := Kd.own_slice HO.out
            have HM9 := Lib.hid (Kd.own_sl (ok' := TT) HO.out (fun _ _ => trivial) (fun _ _ => trivial))
            rw [← HPut.out] at HM9
            rw [← HPut.out]
            clear HO
            go_wp2
            go_ret
            exact ⟨_, _, rfl, HM9.out, HB6.out⟩
    · have hd : decide (i < l.length) = false := decide_eq_false hlt
      have HPut : Hid (putT l t = l.take i ++ [t] ++ l.drop i) := Lib.hid (putT_ins l t i hiL HI.out.1 (fun h => absurd h hlt))
      have HIW := Lib.hid HI.out.2
      clear HI hlt
      obtain ⟨⟨sk', sx', se'⟩, ⟨pk', px', pe'⟩, ⟨ok', ox', oe'⟩⟩ := t
      go_upto_region 2 with fail
      go_quiet (fail)
      go_wp2
      go_upto_region 4 with fail
      go_quiet (fail)
      go_upto_region 6 with fail
      generalize hwy : World.drewN _ _ = w2 at *
      have HB3 : Hid (Below w.heap.size w w2) := Lib.hid (by subst hwy; exact bel_drewN (bel_drewN HIW.out.1 _) _)
      have hcz : C9 w2 w.heap.size 0 ⟨⟨sk', sx', se'⟩, ⟨pk', px', pe'⟩, ⟨ok', ox', oe'⟩⟩ := by subst hwy; exact HIW.out.2.moved rfl
      clear hwy HIW
      obtain ⟨A1, -, -, htake, hrow1⟩ := Kd.cut_run (P := Tryz.prog) triK 22 36 Tryz.underlying22 cellsT zeroV 120 info_tri (A) l.length c 0 i (Nat.zero_le _) hiL hlc ⟨hl47, hcm⟩ hA
      obtain ⟨A2, -, hdrop, -, hrow2⟩ := Kd.cut_run (P := Tryz.prog) triK 22 36 Tryz.underlying22 cellsT zeroV 120 info_tri (A) l.length c i l.length hiL (Nat.le_refl _) hlc ⟨hl47, hcm⟩ hA
      have HQ1 := Lib.hid (hrow1 w TT l rfl HROW.out)
      have HQ2 := Lib.hid (hrow2 w TT l rfl HROW.out)
      rw [List.drop_zero] at HQ1
      rw [List.take_length] at HQ2
      obtain ⟨pre, hpre⟩ : ∃ pre, pre = l.take i := ⟨_, rfl⟩
      obtain ⟨suf, hsuf⟩ : ∃ suf, suf = l.drop i := ⟨_, rfl⟩
      have hpl : pre.length = i := by rw [hpre, List.length_take]; omega
      have hsl : suf.length = l.length - i := by rw [hsuf, List.length_drop]
      have hs1 : ∀ (kh : IntKind) (w : World), (Instr.slice 22 (.slice (A) l.length c) none (some (.int kh (i : Int))) none).run Tryz.prog w = .ok (.slice A1 pre.length c) w := fun kh w => by rw [hpl]; exact htake kh w rfl
      obtain ⟨c2, hc2⟩ : ∃ c2, c2 = c - i := ⟨_, rfl⟩
      have hs2 : ∀ (kl : IntKind) (w : World), (Instr.slice 22 (.slice (A) l.length c) (some (.int kl (i : Int))) none none).run Tryz.prog w = .ok (.slice A2 suf.length c2) w := fun kl w => by rw [hsl, hc2]; exact hdrop kl w rfl
      rw [Nat.sub_zero, Nat.sub_zero, ← hpre, ← hpl] at HQ1
      rw [← hsuf, ← hsl, ← hc2] at HQ2
      rw [← hpre, ← hsuf] at HPut
      have hbp : pre.length ≤ 1000000 := by omega
      have hbs2 : suf.length ≤ 1000000 := by omega
      clear htake hdrop hrow1 hrow2 hpre hsuf hc2
      clear hpl hsl
      have HZ := Lib.hid hcz
      have hB := HB3.out
      have hY := Below.refl w2.heap.size w2
      obtain ⟨n0, n1, n2, n3, n4, n5, n6, n7, n8⟩ := hcz
      dsimp only at n0 n1 n2 n3 n4 n5 n6 n7 n8
      go_cut [4] (fun v4 wx => Hid (triK.own 36 wx w2.heap.size TT v4 (pre ++ [⟨⟨sk', sx', se'⟩, ⟨pk', px', pe'⟩, ⟨ok', ox', oe'⟩⟩] ++ suf)) ∧ Hid (Below w.heap.size w wx))
      case first =>
        go_region_held3 (fun w' => w'.cell? ⟨w.heap.size, 0, none⟩ = some (Value.int .i64 sk') ∧ w'.cell? ⟨w.heap.size, 1, none⟩ = some (Value.string (mkS sx')) ∧ w'.cell? ⟨w.heap.size, 2, none⟩ = some (Value.string (mkS se')) ∧ w'.cell? ⟨w.heap.size, 3, none⟩ = some (Value.int .i64 pk') ∧ w'.cell? ⟨w.heap.size, 4, none⟩ = some (Value.string (mkS px')) ∧ w'.cell? ⟨w.heap.size, 5, none⟩ = some (Value.string (mkS pe')) ∧ w'.cell? ⟨w.heap.size, 6, none⟩ = some (Value.int .i64 ok') ∧ w'.cell? ⟨w.heap.size, 7, none⟩ = some (Value.string (mkS ox')) ∧ w'.cell? ⟨w.heap.size, 8, none⟩ = some (Value.string (mkS oe')))
          (exact nine (HZ.out.below (by (repeat (first | assumption | exact Below.refl _ _ | refine bel_alloc ?_ _ | refine bel_drew ?_)))))
          (first
            | (refine Kd.own_app_step triK (w0 := w2) w2.heap.size (by rfl) (.tmp 35) (.tmp 38) 22 36 zeroV 120 (by rfl) Tryz.underlying22 info_tri rfl (by decide) (.slice (some ⟨w2.heap.size, 0, none⟩) 0 0) [] pre A1 c TT (by rfl) (by rfl) ?ho (.inr ⟨?hr, any_tri⟩) ?hb ?hs ?hl ?_; go_loud (case hl => simp; omega); go_loud (case ho => first | exact own0_1 _ | exact Kd.own_drew (own0_1 _) | exact Kd.own_drew (Kd.own_alloc (own0_1 _) _) | exact Kd.own_drew (own0_2 _ _)); go_loud (case hr => exact Kd.M_below HQ1.out (by (repeat (first | assumption | exact Below.refl _ _ | refine bel_alloc ?_ _ | refine bel_drew ?_)))); go_loud (case hb => repeat (first | assumption | exact Below.refl _ _ | refine bel_alloc ?_ _ | refine bel_drew ?_)); go_loud (case hs => simp; try omega); intro v1 w1 ho1 hb1 hg1 hv1; go_loud (rw [List.nil_append] at ho1); have HO1 := Lib.hid ho1; clear ho1 hv1)
            | (refine Kd.own_app_step triK (w0 := w2) w2.heap.size (by rfl) (.tmp 35) (.tmp 38) 22 36 zeroV 120 (by rfl) Tryz.underlying22 info_tri rfl (by decide) (.slice (some ⟨w2.heap.size + 1, 0, none⟩) 0 0) [] pre A1 c TT (by rfl) (by rfl) ?ho (.inr ⟨?hr, any_tri⟩) ?hb ?hs ?hl ?_; go_loud (case hl => simp; omega); go_loud (case ho => first | exact own0_1 _ | exact Kd.own_drew (own0_1 _) | exact Kd.own_drew (Kd.own_alloc (own0_1 _) _) | exact Kd.own_drew (own0_2 _ _)); go_loud (case hr => exact Kd.M_below HQ1.out (by (repeat (first | assumption | exact Below.refl _ _ | refine bel_alloc ?_ _ | refine bel_drew ?_)))); go_loud (case hb => repeat (first | assumption | exact Below.refl _ _ | refine bel_alloc ?_ _ | refine bel_drew ?_)); go_loud (case hs => simp; try omega); intro v1 w1 ho1 hb1 hg1 hv1; go_loud (rw [List.nil_append] at ho1); have HO1 := Lib.hid ho1; clear ho1 hv1)
            | (refine Kd.own_app_step triK (w0 := w2) w2.heap.size (by rfl) (.tmp 39) (.tmp 41) 22 36 zeroV 120 (by rfl) Tryz.underlying22 info_tri rfl (by decide) v1 pre [⟨⟨sk', sx', se'⟩, ⟨pk', px', pe'⟩, ⟨ok', ox', oe'⟩⟩] _ 1 TT (by rfl) (by rfl) ?ho (.inr ⟨?hr, any_tri⟩) ?hb ?hs ?hl ?_; go_loud (case hl => simp; omega); go_loud (case ho => repeat (first | exact HO1.out | refine Kd.own_drew ?_ | refine Kd.own_alloc ?_ _)); go_loud (case hr => first | exact triK.sl.mono (fun _ _ _ => trivial) (Known.one_row _ ⟨⟨sk', sx', se'⟩, ⟨pk', px', pe'⟩, ⟨ok', ox', oe'⟩⟩ hft) | (refine one_grown hft ?_ hg1 ?_; (first | exact C9_new1 _ _ ⟨⟨sk', sx', se'⟩, ⟨pk', px', pe'⟩, ⟨ok', ox', oe'⟩⟩ | exact C9_new2 _ ⟨⟨sk', sx', se'⟩, ⟨pk', px', pe'⟩, ⟨ok', ox', oe'⟩⟩ _); (simp [Value.ownBlock]))); go_loud (case hb => repeat (first | assumption | exact Below.refl _ _ | refine bel_alloc ?_ _ | refine bel_drew ?_)); go_loud (case hs => have := hb1.size; first | omega | (simp; omega)); intro v2 w4 ho2 hb2 hg2 hv2; have HO2 := Lib.hid ho2; clear ho2 hg2 hv2)
            | (refine Kd.own_app_step triK (w0 := w2) w2.heap.size (by rfl) (.tmp 42) (.tmp 45) 22 36 zeroV 120 (by rfl) Tryz.underlying22 info_tri rfl (by decide) v2 (pre ++ [⟨⟨sk', sx', se'⟩, ⟨pk', px', pe'⟩, ⟨ok', ox', oe'⟩⟩]) suf A2 c2 TT (by rfl) (by rfl) ?ho (.inr ⟨?hr, any_tri⟩) ?hb ?hs ?hl ?_; go_loud (case hl => simp; omega); go_loud (case ho => repeat (first | exact HO2.out | refine Kd.own_drew ?_ | refine Kd.own_alloc ?_ _)); go_loud (case hr => exact Kd.M_below HQ2.out (bel_step hB (by (repeat (first | assumption | exact Below.refl _ _ | refine bel_alloc ?_ _ | refine bel_drew ?_))))); go_loud (case hb => repeat (first | assumption | exact Below.refl _ _ | refine bel_alloc ?_ _ | refine bel_drew ?_)); go_loud (case hs => have := hb2.size; first | omega | (simp; omega)); intro v3 w5 ho3 hb3 hg3 hv3; have HO3 := Lib.hid ho3; clear ho3 hg3 hv3)
            | fail)
        all_goals (go_wp2_with fail; go_meet; exact ⟨HO3, Lib.hid (bel_step hB hb3)⟩)
      case rest =>
        obtain ⟨HO, HB6⟩ := hcut
        obtain ⟨A9, c9, rfl, _, _⟩ := Kd.own_slice HO.out
        have HM9 := Lib.hid (Kd.own_sl (ok' := TT) HO.out (fun _ _ => trivial) (fun _ _ => trivial))
        rw [← HPut.out] at HM9
        rw [← HPut.out]
        clear HO
        go_wp2
        go_ret
        exact ⟨_, _, rfl, HM9.out, HB6.out⟩
end Go.Proofs.YtnplommdgfgboaaGreatDoor.SortW
set_option linter.unusedVariables false
set_option linter.unusedSimpArgs false
namespace Go.Proofs.YtnplommdgfgboaaGreatDoor.SortW
open Go.RowKit Go.Lib Go.Proofs.YtnplommdgfgboaaGreatDoor.B Go.Proofs.YtnplommdgfgboaaGreatDoor.Rd Go.Proofs.YtnplommdgfgboaaGreatDoor.Utf Go.Proofs.YtnplommdgfgboaaGreatDoor.TermPure Go.Proofs.YtnplommdgfgboaaGreatDoor.LinesPure Go.Proofs.YtnplommdgfgboaaGreatDoor.Tx Go.Proofs.YtnplommdgfgboaaGreatDoor.Env Go.Proofs.YtnplommdgfgboaaGreatDoor.Tri Go.Proofs.YtnplommdgfgboaaGreatDoor.SortP Go.Proofs.YtnplommdgfgboaaGreatDoor.Print Go.Proofs.YtnplommdgfgboaaGreatDoor.Cmp Go.Proofs.YtnplommdgfgboaaGreatDoor.Long
theorem putT_sub : ∀ (l : List Triple) (t x : Triple), x ∈ putT l t → x = t ∨ x ∈ l
  | [], t, x, h => by simpa [putT] using h
  | y :: l, t, x, h => by
    rw [putT] at h
    split at h
    · rcases List.mem_cons.1 h with h | h
      · exact .inr (by simp [h])
      · rcases putT_sub l t x h with h | h
        · exact .inl h
        · exact .inr (by simp [h])
    · split at h
      · exact .inr h
      · rcases List.mem_cons.1 h with h | h
        · exact .inl h
        · exact .inr h
theorem putT_len : ∀ (l : List Triple) (t : Triple), (putT l t).length ≤ l.length + 1
  | [], t => by simp [putT]
  | y :: l, t => by
    have := putT_len l t
    rw [putT]
    split
    · simp; omega
    · split <;> simp
def accT (l : List Triple) (k : Nat) : List Triple := (l.take k).foldl putT []
theorem accT_step (l : List Triple) (k : Nat) (h : k < l.length) : accT l (k + 1) = putT (accT l k) l[k] := by
  unfold accT
  rw [List.take_succ_eq_append_getElem h, List.foldl_append]
  rfl
theorem accT_sub (l : List Triple) : ∀ k, k ≤ l.length → ∀ x ∈ accT l k, x ∈ l
  | 0, _, x, h => by simp [accT] at h
  | k + 1, hk, x, h => by
    rw [accT_step l k (by omega)] at h
    rcases putT_sub _ _ _ h with h | h
    · rw [h]; exact List.getElem_mem _
    · exact accT_sub l k (by omega) x h
theorem accT_len (l : List Triple) : ∀ k, k ≤ l.length → (accT l k).length ≤ k
  | 0, _ => by simp [accT]
  | k + 1, hk => by
    rw [accT_step l k (by omega)]
    have := putT_len (accT l k) (l[k]'(by omega))
    have := accT_len l k (by omega)
    omega
theorem accT_all (l : List Triple) : accT l l.length = sortT l := by
  unfold accT sortT
  rw [List.take_length]
set_option maxHeartbeats 6400000 in
set_option maxRecDepth 100000 in
theorem refsort_calls (l : List Triple) (A : Option Addr) (c : Nat) (w : World) (HL : triK.sl.M w (fun k => k < w.heap.size) l [.slice A l.length c]) (hs : ∀ x ∈ l, SmallT x) (hb : l.length ≤ 1000000) :
    Calls Tryz.prog 21 #[.slice A l.length c] w fun e w' => ∃ A' c', e = .returned (.slice A' (sortT l).length c') ∧ triK.sl.M w' (fun k => k < w'.heap.size) (sortT l) [.slice A' (sortT l).length c'] ∧ Below w.heap.size w w' := by
  have HR := Lib.hid (row_cells HL)
  have HF := Lib.hid (row_fits HL)
  have HS := Lib.hid hs
  have h47 := sl_len HL
  clear HL hs
  go_enter Tryz.func21, Tryz.ntmps21
  go_wp2
  go_loopw [3, 4] (fun v3 vi wr => ∃ (k : Nat) (acc : List Triple) (A3 : Option Addr) (c3 : Nat), vi = .int .i64 k ∧ v3 = .slice A3 acc.length c3 ∧ k ≤ l.length ∧ Hid (acc = accT l k ∧ triK.sl.M wr TT acc [.slice A3 acc.length c3] ∧ Below w.heap.size w wr)) (fun _ vi _ => l.length - (intOf vi).toNat)
  case atStart => exact ⟨0, [], none, 0, rfl, rfl, by omega, Lib.hid ⟨rfl, ⟨none, 0, rfl, Nat.le_refl _, ⟨Nat.zero_le _, Nat.zero_le _⟩, fun _ => rfl, Kd.row_nil _ _ _ _⟩, Below.refl _ _⟩⟩
  case round =>
    obtain ⟨k, acc, A3, c3, rfl, rfl, hkL, HI⟩ := hrel
    by_cases hlt : k < l.length
    · have hd : decide (k < l.length) = true := decide_eq_true hlt
      have ik : (k : Int) < (l.length : Int) := by omega
      obtain ⟨b, off, rfl, hbs, hcells⟩ := HR.out k hlt
      have hcx := (hcells k hlt).below HI.out.2.2
      obtain ⟨x, hx⟩ : ∃ x, x = l[k] := ⟨_, rfl⟩
      rw [← hx] at hcx
      have HC := Lib.hid (put_calls acc x A3 c3 wr (triK.sl.mono (fun k _ hk => hk) HI.out.2.1) (fun y hy => HS.out y (accT_sub l k hkL y (by rw [← HI.out.1]; exact hy))) (by rw [hx]; exact HS.out _ (List.getElem_mem hlt)) (by rw [hx]; exact HF.out _ (List.getElem_mem hlt)) (by rw [HI.out.1]; exact Nat.le_trans (accT_len l k hkL) (by omega)))
      have HAcc : Hid (putT acc x = accT l (k + 1)) := Lib.hid (by rw [accT_step l k hlt, HI.out.1, hx])
      have HB := Lib.hid HI.out.2.2
      clear hcells hx HI
      obtain ⟨⟨sk, sx, se⟩, ⟨pk, px, pe⟩, ⟨ok, ox, oe⟩⟩ := x
      obtain ⟨x0, x1, x2, x3, x4, x5, x6, x7, x8⟩ := hcx
      dsimp only at x0 x1 x2 x3 x4 x5 x6 x7 x8
      unfold Ref5.tripleV at HC
      dsimp only at HC
      go_wp2_with fail
      refine HC.out.mono ?_
      rintro e w2 ⟨A4, c4, rfl, hM, hb2⟩
      have HN := Lib.hid (show _ ∧ _ ∧ _ from ⟨HAcc.out, hM, bel_step HB.out hb2⟩)
      clear HC hM hb2 HAcc HB
      go_wp2
      go_roundw
      case rel => exact ⟨k + 1, _, _, _, by go_num, rfl, by omega, HN⟩
      case measure => simp [intOf]; omega
    · have hd : decide (k < l.length) = false := decide_eq_false hlt
      obtain rfl : k = l.length := by omega
      have HN : Hid (acc = sortT l) := Lib.hid (by rw [HI.out.1, accT_all])
      have HM : Hid (triK.sl.M wr (fun k => k < wr.heap.size) acc [.slice A3 acc.length c3] ∧ Below w.heap.size w wr) := Lib.hid ⟨triK.sl.mono (fun k _ hk => hk) HI.out.2.1, HI.out.2.2⟩
      clear HI
      go_wp2
      go_ret
      rw [← HN.out]
      exact ⟨_, _, rfl, HM.out.1, HM.out.2⟩
end Go.Proofs.YtnplommdgfgboaaGreatDoor.SortW
set_option linter.unusedVariables false
set_option linter.unusedSimpArgs false
namespace Go.Proofs.YtnplommdgfgboaaGreatDoor.SortW
open Go.RowKit Go.Lib Go.Proofs.YtnplommdgfgboaaGreatDoor.B Go.Proofs.YtnplommdgfgboaaGreatDoor.Rd Go.Proofs.YtnplommdgfgboaaGreatDoor.Utf Go.Proofs.YtnplommdgfgboaaGreatDoor.TermPure Go.Proofs.YtnplommdgfgboaaGreatDoor.LinesPure Go.Proofs.YtnplommdgfgboaaGreatDoor.Tx Go.Proofs.YtnplommdgfgboaaGreatDoor.Env Go.Proofs.YtnplommdgfgboaaGreatDoor.Tri Go.Proofs.YtnplommdgfgboaaGreatDoor.SortP Go.Proofs.YtnplommdgfgboaaGreatDoor.Print Go.Proofs.YtnplommdgfgboaaGreatDoor.Cmp Go.Proofs.YtnplommdgfgboaaGreatDoor.Long
theorem run_ne_tri (x y : Triple) (w : World) : (binOp .neq 36 (Ref5.tripleV x) (Ref5.tripleV y)).run Tryz.prog w = .ok (.bool (!decide (x = y))) w := by
  have h := TriEq.run_eq_tri x y w
  unfold Ref5.tripleV at *
  rw [run_eql_struct] at h
  rw [run_neq_struct]
  generalize (Op.equalIn 10000 36 _ _).run Tryz.prog w = r at *
  cases r with
  | ok b w' =>
    simp [Result.andThen] at h ⊢
    obtain ⟨h1, h2⟩ := h
    simp [h1, h2]
  | _ => simp [Result.andThen] at h
set_option maxHeartbeats 6400000 in
set_option maxRecDepth 100000 in
theorem same_calls (l m : List Triple) (A B : Option Addr) (c d : Nat) (w : World) (HL : triK.sl.M w (fun k => k < w.heap.size) l [.slice A l.length c]) (HM : triK.sl.M w (fun k => k < w.heap.size) m [.slice B m.length d]) :
    Calls Tryz.prog 30 #[.slice A l.length c, .slice B m.length d] w fun e w' => e = .returned (.bool (decide (l = m))) ∧ Below w.heap.size w w' := by
  have HR := Lib.hid (row_cells HL)
  have HQ := Lib.hid (row_cells HM)
  have h47 := sl_len HL
  have h48 := sl_len HM
  clear HL HM
  by_cases hlen : l.length = m.length
  · have hne : (l.length != m.length) = false := by simp [hlen]
    have hne2 : ((l.length : Int) != (m.length : Int)) = false := by simp [hlen]
    have HLen := Lib.hid hlen
    clear hlen
    go_enter Tryz.func30, Tryz.ntmps30
    go_wp2
    go_loopw [5] (fun vi wr => ∃ k : Nat, vi = .int .i64 k ∧ k ≤ l.length ∧ Hid (l.take k = m.take k ∧ Below w.heap.size w wr)) (fun vi _ => l.length - (intOf vi).toNat)
    case atStart => exact ⟨0, rfl, by omega, Lib.hid ⟨rfl, Below.refl _ _⟩⟩
    case round =>
      obtain ⟨k, rfl, hkL, HI⟩ := hrel
      by_cases hlt : k < l.length
      · have hd : decide (k < l.length) = true := decide_eq_true hlt
        have ik : (k : Int) < (l.length : Int) := by omega
        have hkm : k < m.length := by rw [← HLen.out]; exact hlt
        have ikm : (k : Int) < (m.length : Int) := by omega
        obtain ⟨b, off, rfl, hbs, hcells⟩ := HR.out k hlt
        obtain ⟨b2, off2, rfl, hbs2, hcells2⟩ := HQ.out k hkm
        have hcx := (hcells k hlt).below HI.out.2
        have hcy := (hcells2 k hkm).below HI.out.2
        obtain ⟨x, hx⟩ : ∃ x, x = l[k] := ⟨_, rfl⟩
        obtain ⟨y, hy⟩ : ∃ y, y = m[k] := ⟨_, rfl⟩
        rw [← hx] at hcx
        rw [← hy] at hcy
        have HNe : Hid (∀ w, (binOp .neq 36 (Ref5.tripleV x) (Ref5.tripleV y)).run Tryz.prog w = .ok (.bool (!decide (x = y))) w) := Lib.hid (fun w => run_ne_tri x y w)
        have HOk : Hid (x = y → l.take (k + 1) = m.take (k + 1)) := Lib.hid (fun h => by
          rw [List.take_succ_eq_append_getElem hlt, List.take_succ_eq_append_getElem hkm, HI.out.1, ← hx, ← hy, h])
        have HNo : Hid (x ≠ y → decide (l = m) = false) := Lib.hid (fun h => decide_eq_false (fun h2 => h (by rw [hx, hy]; subst h2; rfl)))
        have HB := Lib.hid HI.out.2
        clear hcells hcells2 hx hy HI
        by_cases hxy : x = y
        · rw [decide_eq_true hxy] at HNe
          have HN := Lib.hid (HOk.out hxy)
          clear hxy HOk HNo
          obtain ⟨⟨sk, sx, se⟩, ⟨pk, px, pe⟩, ⟨ok, ox, oe⟩⟩ := x
          obtain ⟨⟨sk', sx', se'⟩, ⟨pk', px', pe'⟩, ⟨ok', ox', oe'⟩⟩ := y
          obtain ⟨x0, x1, x2, x3, x4, x5, x6, x7, x8⟩ := hcx
          obtain ⟨y0, y1, y2, y3, y4, y5, y6, y7, y8⟩ := hcy
          dsimp only at x0 x1 x2 x3 x4 x5 x6 x7 x8 y0 y1 y2 y3 y4 y5 y6 y7 y8
          unfold Ref5.tripleV at HNe
          dsimp only at HNe
          have hnn := HNe.out
          go_upto_region 6 with fail
          go_quiet (fail)
          have HB2 := Lib.hid (bel_drewN HB.out 1)
          go_wp2
          go_roundw
          case rel => exact ⟨k + 1, by go_num, by omega, Lib.hid ⟨HN.out, bel_drewN HB.out _⟩⟩
          case measure => simp [intOf]; omega
        · rw [decide_eq_false hxy] at HNe
          have HN := Lib.hid (HNo.out hxy)
          clear hxy HOk HNo
          obtain ⟨⟨sk, sx, se⟩, ⟨pk, px, pe⟩, ⟨ok, ox, oe⟩⟩ := x
          obtain ⟨⟨sk', sx', se'⟩, ⟨pk', px', pe'⟩, ⟨ok', ox', oe'⟩⟩ := y
          obtain ⟨x0, x1, x2, x3, x4, x5, x6, x7, x8⟩ := hcx
          obtain ⟨y0, y1, y2, y3, y4, y5, y6, y7, y8⟩ := hcy
          dsimp only at x0 x1 x2 x3 x4 x5 x6 x7 x8 y0 y1 y2 y3 y4 y5 y6 y7 y8
          unfold Ref5.tripleV at HNe
          dsimp only at HNe
          have hnn := HNe.out
          go_upto_region 6 with fail
          go_quiet (fail)
          go_wp2
          go_ret
          exact ⟨by rw [HN.out]; rfl, bel_drewN HB.out _⟩
      · have hd : decide (k < l.length) = false := decide_eq_false hlt
        have HN : Hid (decide (l = m) = true) := Lib.hid (decide_eq_true (by
          have := HI.out.1
          rwa [List.take_of_length_le (by omega), List.take_of_length_le (by rw [← HLen.out]; omega)] at this))
        have HB := Lib.hid HI.out.2
        clear HI
        go_wp2
        go_ret
        exact ⟨by rw [HN.out]; rfl, HB.out⟩
  · have hne : (l.length != m.length) = true := by simp [hlen]
    have hne2 : ((l.length : Int) != (m.length : Int)) = true := by simp; omega
    have HN : Hid (decide (l = m) = false) := Lib.hid (decide_eq_false (fun h => hlen (by rw [h])))
    clear hlen
    go_enter Tryz.func30, Tryz.ntmps30
    go_wp2
    go_ret
    exact ⟨by rw [HN.out]; rfl, Below.refl _ _⟩
end Go.Proofs.YtnplommdgfgboaaGreatDoor.SortW
set_option linter.unusedVariables false
set_option linter.unusedSimpArgs false
namespace Go.Proofs.YtnplommdgfgboaaGreatDoor.FrontP
def shared : List UInt8 → List UInt8 → Nat
  | a :: l, b :: m => if a = b then shared l m + 1 else 0
  | _, _ => 0
theorem shared_right : ∀ a b : List UInt8, shared a b ≤ b.length
  | [], _ => by simp [shared]
  | a :: l, [] => by simp [shared]
  | a :: l, b :: m => by
    have := shared_right l m
    rw [shared]
    split <;> simp <;> omega
theorem shared_take : ∀ a b : List UInt8, a.take (shared a b) = b.take (shared a b)
  | [], b => by simp [shared]
  | a :: l, [] => by simp [shared]
  | a :: l, b :: m => by
    have := shared_take l m
    rw [shared]
    split
    · rename_i h
      rw [List.take_succ_cons, List.take_succ_cons, this, h]
    · simp
theorem shared_at : ∀ (a b : List UInt8) (n : Nat), n ≤ a.length → n ≤ b.length → a.take n = b.take n → (∀ (h : n < a.length) (h' : n < b.length), a[n] ≠ b[n]) → shared a b = n
  | [], b, n, h, _, _, _ => by simp at h; subst h; simp [shared]
  | a :: l, [], n, _, h, _, _ => by simp at h; subst h; simp [shared]
  | a :: l, b :: m, 0, _, _, _, hne => by
    have := hne (by simp) (by simp)
    simp at this
    rw [shared, if_neg this]
  | a :: l, b :: m, n + 1, h1, h2, he, hne => by
    rw [List.take_succ_cons, List.take_succ_cons] at he
    injection he with e1 e2
    rw [shared, if_pos e1, shared_at l m n (by simpa using h1) (by simpa using h2) e2 (fun h h' => by have := hne (by simp; omega) (by simp; omega); rw [List.getElem_cons_succ, List.getElem_cons_succ] at this; exact this)]
/-- How many bytes of text i are left out. -/
def outN (l : List (List UInt8)) (i : Nat) : Nat := if i % 4 = 0 then 0 else shared (l.getD (i - 1) []) (l.getD i [])
def piece (l : List (List UInt8)) (i : Nat) : List UInt8 := UInt8.ofNat (outN l i) :: UInt8.ofNat ((l.getD i []).length - outN l i) :: (l.getD i []).drop (outN l i)
def upTo (l : List (List UInt8)) (k : Nat) : List UInt8 := (List.range k).flatMap (piece l)
def headN (n : Nat) : List UInt8 := [UInt8.ofNat (n / 256), UInt8.ofNat (n % 256)]
def frontB (l : List (List UInt8)) : List UInt8 := headN l.length ++ upTo l l.length
theorem upTo_succ (l : List (List UInt8)) (k : Nat) : upTo l (k + 1) = upTo l k ++ piece l k := by
  unfold upTo
  rw [List.range_succ, List.flatMap_append]
  simp
theorem outN_le (l : List (List UInt8)) (i : Nat) : outN l i ≤ (l.getD i []).length := by
  unfold outN
  split
  · omega
  · exact shared_right _ _
theorem piece_len (l : List (List UInt8)) (i : Nat) : (piece l i).length ≤ 2 + (l.getD i []).length := by
  unfold piece
  simp
  omega
theorem upTo_len {l : List (List UInt8)} {b : Nat} (h : ∀ x ∈ l, x.length ≤ b) : ∀ k, k ≤ l.length → (upTo l k).length ≤ k * (b + 2)
  | 0, _ => by simp [upTo]
  | k + 1, hk => by
    have h1 := upTo_len h k (by omega)
    have h2 := piece_len l k
    have h3 : (l.getD k []).length ≤ b := by
      rw [List.getD_eq_getElem?_getD, List.getElem?_eq_getElem (by omega)]
      exact h _ (List.getElem_mem _)
    rw [upTo_succ, List.length_append, Nat.succ_mul]
    omega
theorem byte_inj {a b : Nat} (ha : a < 256) (hb : b < 256) (h : UInt8.ofNat a = UInt8.ofNat b) : a = b := by
  have := congrArg UInt8.toNat h
  simp at this
  omega
theorem head_inj {a b : Nat} (ha : a < 65536) (hb : b < 65536) (h : headN a = headN b) : a = b := by
  unfold headN at h
  injection h with h1 h2
  injection h2 with h2 _
  have := byte_inj (by omega) (by omega) h1
  have := byte_inj (by omega) (by omega) h2
  omega
/-- The pieces from k on. -/
def from' (l : List (List UInt8)) (k n : Nat) : List UInt8 := (List.range' k n).flatMap (piece l)
theorem from_inj (l m : List (List UInt8)) (hl : ∀ x ∈ l, x.length < 256) (hm : ∀ x ∈ m, x.length < 256) (hlen : l.length = m.length) :
    ∀ (n k : Nat), k + n = l.length → l.take k = m.take k → from' l k n = from' m k n → l = m
  | 0, k, hk, ht, _ => by
    rw [List.take_of_length_le (by omega), List.take_of_length_le (by omega)] at ht
    exact ht
  | n + 1, k, hk, ht, he => by
    unfold from' at he
    rw [List.range'_succ, List.flatMap_cons, List.flatMap_cons] at he
    have hkl : k < l.length := by omega
    have hkm : k < m.length := by omega
    have gl : l.getD k [] = l[k] := by rw [List.getD_eq_getElem?_getD, List.getElem?_eq_getElem hkl]; rfl
    have gm : m.getD k [] = m[k] := by rw [List.getD_eq_getElem?_getD, List.getElem?_eq_getElem hkm]; rfl
    have bl := hl _ (List.getElem_mem hkl)
    have bm := hm _ (List.getElem_mem hkm)
    have ol := outN_le l k
    have om := outN_le m k
    have hprev : l.getD (k - 1) [] = m.getD (k - 1) [] ∨ k = 0 := by
      by_cases h0 : k = 0
      · exact .inr h0
      · left
        have e1 : l[k - 1]? = m[k - 1]? := by
          have h1 : (l.take k)[k - 1]? = (m.take k)[k - 1]? := by rw [ht]
          rwa [List.getElem?_take_of_lt (by omega), List.getElem?_take_of_lt (by omega)] at h1
        rw [List.getD_eq_getElem?_getD, List.getD_eq_getElem?_getD, e1]
    rw [gl] at ol
    rw [gm] at om
    have key : l[k] = m[k] ∧ (List.range' (k + 1) n).flatMap (piece l) = (List.range' (k + 1) n).flatMap (piece m) := by
      unfold piece at he
      simp only [List.cons_append] at he
      injection he with e1 he
      injection he with e2 he
      rw [gl, gm] at e2 he
      have n1 := byte_inj (by omega) (by omega) e1
      have n2 := byte_inj (by omega) (by omega) e2
      have hdl : (l[k].drop (outN l k)).length = (m[k].drop (outN m k)).length := by simp; omega
      obtain ⟨e3, e4⟩ := List.append_inj he hdl
      refine ⟨?_, e4⟩
      rw [n1] at e3
      rw [← List.take_append_drop (outN m k) l[k], ← List.take_append_drop (outN m k) m[k], e3]
      congr 1
      by_cases h4 : k % 4 = 0
      · have : outN m k = 0 := by unfold outN; rw [if_pos h4]
        rw [this]
        simp
      · have hk0 : k ≠ 0 := fun h => h4 (by rw [h])
        have hp := hprev.resolve_right hk0
        have s1 := shared_take (l.getD (k - 1) []) (l.getD k [])
        have s2 := shared_take (m.getD (k - 1) []) (m.getD k [])
        have o1 : outN l k = shared (l.getD (k - 1) []) (l.getD k []) := by unfold outN; rw [if_neg h4]
        have o2 : outN m k = shared (m.getD (k - 1) []) (m.getD k []) := by unfold outN; rw [if_neg h4]
        rw [← o1, n1, gl] at s1
        rw [← o2, gm] at s2
        rw [← s1, ← s2, hp]
    refine from_inj l m hl hm hlen n (k + 1) (by omega) ?_ key.2
    rw [List.take_succ_eq_append_getElem hkl, List.take_succ_eq_append_getElem hkm, ht, key.1]
theorem frontB_inj {l m : List (List UInt8)} (hl : ∀ x ∈ l, x.length < 256) (hm : ∀ x ∈ m, x.length < 256) (h1 : l.length < 65536) (h2 : m.length < 65536) (h : frontB l = frontB m) : l = m := by
  unfold frontB at h
  obtain ⟨e1, e2⟩ := List.append_inj h (by simp [headN])
  have hlen := head_inj h1 h2 e1
  refine from_inj l m hl hm hlen l.length 0 (by omega) rfl ?_
  unfold from'
  unfold upTo at e2
  rw [List.range_eq_range', List.range_eq_range', ← hlen] at e2
  exact e2
end Go.Proofs.YtnplommdgfgboaaGreatDoor.FrontP
set_option linter.unusedVariables false
set_option linter.unusedSimpArgs false
namespace Go.Proofs.YtnplommdgfgboaaGreatDoor.PackP
open Go.Proofs.YtnplommdgfgboaaGreatDoor.PackW
def bitB (b : List UInt8) (j : Nat) : Bool := (b[j / 8]?.getD 0).toNat.testBit (j % 8)
theorem bitAt_eq (n k : Nat) : bitAt n k = (n.testBit k).toNat := by
  unfold bitAt
  rw [Nat.toNat_testBit]
theorem bit_orAt (b : List UInt8) (a j : Nat) (v : Bool) (ha : a / 8 < b.length) : bitB (orAt b a v.toNat) j = (bitB b j || (decide (j = a) && v)) := by
  unfold bitB orAt
  by_cases hq : j / 8 = a / 8
  · rw [hq, List.getElem?_set_self ha]
    simp only [Option.getD_some]
    rw [UInt8.toNat_or, Nat.testBit_or]
    congr 1
    have hm : a % 8 < 8 := Nat.mod_lt _ (by decide)
    cases v
    · simp
    · have h2 : (2 : Nat) ^ (a % 8) < 256 := by
        have : (2 : Nat) ^ (a % 8) ≤ 2 ^ 7 := Nat.pow_le_pow_right (by decide) (by omega)
        omega
      rw [show true.toNat * 2 ^ (a % 8) = 2 ^ (a % 8) by simp, UInt8.toNat_ofNat', Nat.mod_eq_of_lt (by omega), Nat.testBit_two_pow, Bool.and_true]
      by_cases e : j = a
      · subst e; simp
      · rw [decide_eq_false e, decide_eq_false (by omega)]
  · rw [List.getElem?_set_ne (fun h => hq h.symm)]
    have : ¬ j = a := fun h => hq (by rw [h])
    rw [decide_eq_false this]
    simp
theorem bit_num (b : List UInt8) (f n : Nat) : ∀ k, f + k ≤ 8 * b.length → ∀ j, bitB (packNum b f n k) j = (bitB b j || (decide (f ≤ j) && (decide (j < f + k) && n.testBit (j - f))))
  | 0, _, j => by
    have h : (decide (f ≤ j) && (decide (j < f + 0) && n.testBit (j - f))) = false := by
      by_cases h1 : f ≤ j
      · rw [decide_eq_false (show ¬ j < f + 0 by omega)]; simp
      · rw [decide_eq_false h1]; simp
    rw [packNum, h, Bool.or_false]
  | k + 1, hk, j => by
    rw [packNum, bitAt_eq, bit_orAt _ _ _ _ (by rw [packNum_len]; omega), bit_num b f n k (by omega) j]
    by_cases e : j = f + k
    · subst e
      rw [decide_eq_true (show f ≤ f + k by omega), decide_eq_false (show ¬ f + k < f + k by omega), decide_eq_true (show f + k < f + (k + 1) by omega), show f + k - f = k by omega]
      simp
    · rw [decide_eq_false e]
      by_cases h1 : j < f + k
      · rw [decide_eq_true h1, decide_eq_true (show j < f + (k + 1) by omega)]; simp
      · rw [decide_eq_false h1, decide_eq_false (show ¬ j < f + (k + 1) by omega)]; simp
theorem bit_F (l : List Nat) (wd : Nat) (hw : 0 < wd) : ∀ i, i ≤ l.length → ∀ j, bitB (packF l wd i) j = (decide (j < i * wd) && (l[j / wd]?.getD 0).testBit (j % wd))
  | 0, _, j => by
    have : bitB (packF l wd 0) j = false := by
      unfold bitB packF
      rw [List.getElem?_replicate]
      split <;> simp
    rw [this]
    simp
  | i + 1, hi, j => by
    have hle : i * wd + wd ≤ l.length * wd := by
      have := Nat.mul_le_mul_right wd hi
      rwa [Nat.succ_mul] at this
    rw [packF, bit_num _ _ _ _ (by rw [packF_len]; omega), bit_F l wd hw i (by omega) j, Nat.succ_mul]
    by_cases h1 : j < i * wd
    · rw [decide_eq_true h1, decide_eq_false (show ¬ i * wd ≤ j by omega), decide_eq_true (show j < i * wd + wd by omega)]
      simp
    · rw [decide_eq_false h1, decide_eq_true (show i * wd ≤ j by omega)]
      by_cases h2 : j < i * wd + wd
      · rw [decide_eq_true h2]
        have hdiv : j / wd = i := by
          apply Nat.div_eq_of_lt_le
          · omega
          · rw [Nat.succ_mul]; omega
        have hmod : j % wd = j - i * wd := by
          have := Nat.div_add_mod j wd
          rw [hdiv, Nat.mul_comm] at this
          omega
        rw [hdiv, hmod]
        simp
      · rw [decide_eq_false h2]
        simp
theorem bit_at (l : List Nat) (wd : Nat) (hw : 0 < wd) (i k : Nat) (hi : i < l.length) (hk : k < wd) : bitB (packB l wd) (i * wd + k) = l[i].testBit k := by
  unfold packB
  have hle : i * wd + wd ≤ l.length * wd := by
    have := Nat.mul_le_mul_right wd (show i + 1 ≤ l.length by omega)
    rwa [Nat.succ_mul] at this
  rw [bit_F l wd hw _ (Nat.le_refl _), decide_eq_true (by omega)]
  have hdiv : (i * wd + k) / wd = i := by
    apply Nat.div_eq_of_lt_le
    · omega
    · rw [Nat.succ_mul]; omega
  have hmod : (i * wd + k) % wd = k := by
    rw [Nat.mul_comm, Nat.mul_add_mod, Nat.mod_eq_of_lt hk]
  rw [hdiv, hmod, List.getElem?_eq_getElem hi]
  simp
theorem packB_inj {l m : List Nat} {wd : Nat} (hlen : l.length = m.length) (hl : ∀ n ∈ l, n < 2 ^ wd) (hm : ∀ n ∈ m, n < 2 ^ wd) (h : packB l wd = packB m wd) : l = m := by
  refine List.ext_getElem hlen fun i h1 h2 => ?_
  have bl := hl _ (List.getElem_mem h1)
  have bm := hm _ (List.getElem_mem h2)
  by_cases hw : 0 < wd
  · refine Nat.eq_of_testBit_eq fun k => ?_
    by_cases hk : k < wd
    · rw [← bit_at l wd hw i k h1 hk, ← bit_at m wd hw i k h2 hk, h]
    · rw [Nat.testBit_lt_two_pow (Nat.lt_of_lt_of_le bl (Nat.pow_le_pow_right (by decide) (by omega))), Nat.testBit_lt_two_pow (Nat.lt_of_lt_of_le bm (Nat.pow_le_pow_right (by decide) (by omega)))]
  · obtain rfl : wd = 0 := by omega
    simp at bl bm
    omega
theorem packB_len (l : List Nat) (wd : Nat) : (packB l wd).length = (l.length * wd + 7) / 8 := packF_len l wd _
end Go.Proofs.YtnplommdgfgboaaGreatDoor.PackP
namespace Go.Proofs.YtnplommdgfgboaaGreatDoor.CrcPure
/-- One binary digit more. -/
def sh (x : Nat) : Nat := if 16777216 ≤ 2 * x then (2 * x) ^^^ 25578747 else 2 * x
def shN : Nat → Nat → Nat
  | 0, x => x
  | k + 1, x => shN k (sh x)
/-- One byte more. -/
def cstep (x : Nat) (c : UInt8) : Nat := shN 8 (x ^^^ (c.toNat * 65536))
theorem cstep_eq (x : Nat) (c : UInt8) : cstep x c = shN 8 (x ^^^ (c.toNat * 65536)) := rfl
theorem shN_succ (k x : Nat) : shN (k + 1) x = shN k (sh x) := rfl
theorem shN_zero (x : Nat) : shN 0 x = x := rfl
attribute [irreducible] shN cstep
def sumFrom : Nat → List UInt8 → Nat
  | x, [] => x
  | x, c :: l => sumFrom (cstep x c) l
theorem sumFrom_nil (x : Nat) : sumFrom x [] = x := rfl
theorem sumFrom_cons (x : Nat) (c : UInt8) (l : List UInt8) : sumFrom x (c :: l) = sumFrom (cstep x c) l := rfl
def init : Nat := 11994318
theorem init_lt : init < 16777216 := by unfold init; omega
def crc (l : List UInt8) : Nat := sumFrom init l
theorem xor_lt24 {a b : Nat} (ha : a < 16777216) (hb : b < 16777216) : a ^^^ b < 16777216 := by
  have h := Nat.xor_lt_two_pow (x := a) (y := b) (n := 24) (by omega) (by omega)
  omega
theorem xor_lt25 {a b : Nat} (ha : a < 33554432) (hb : b < 33554432) : a ^^^ b < 33554432 := by
  have h := Nat.xor_lt_two_pow (x := a) (y := b) (n := 25) (by omega) (by omega)
  omega
theorem testBit_high {x : Nat} (h1 : 16777216 ≤ x) (h2 : x < 33554432) : x.testBit 24 = true := by
  rw [Nat.testBit_eq_decide_div_mod_eq]
  simp only [decide_eq_true_eq]
  have : x / 2 ^ 24 = 1 := by omega
  rw [this]
theorem testBit_low {x : Nat} (h : x < 16777216) : x.testBit 24 = false := Nat.testBit_lt_two_pow (by omega)
theorem sh_lt {x : Nat} (h : x < 16777216) : sh x < 16777216 := by
  unfold sh
  split
  · rename_i h1
    have hx : 2 * x ^^^ 25578747 < 33554432 := xor_lt25 (by omega) (by omega)
    refine Nat.lt_of_not_le fun hge => ?_
    have e := testBit_high hge hx
    rw [Nat.testBit_xor, testBit_high h1 (by omega), testBit_high (x := 25578747) (by omega) (by omega)] at e
    cases e
  · omega
theorem shN_lt (k : Nat) : ∀ {x : Nat}, x < 16777216 → shN k x < 16777216 := by
  induction k with
  | zero => intro x h; rw [shN_zero]; exact h
  | succ k ih => intro x h; rw [shN_succ]; exact ih (sh_lt h)
theorem byte_lt (c : UInt8) : c.toNat * 65536 < 16777216 := by
  have := c.toNat_lt
  omega
theorem in_lt {x : Nat} (h : x < 16777216) (c : UInt8) : x ^^^ (c.toNat * 65536) < 16777216 := xor_lt24 h (byte_lt c)
theorem cstep_lt {x : Nat} (h : x < 16777216) (c : UInt8) : cstep x c < 16777216 := by rw [cstep_eq]; exact shN_lt 8 (in_lt h c)
theorem sumFrom_lt (l : List UInt8) : ∀ {x : Nat}, x < 16777216 → sumFrom x l < 16777216 := by
  induction l with
  | nil => intro x h; rw [sumFrom_nil]; exact h
  | cons c l ih => intro x h; rw [sumFrom_cons]; exact ih (cstep_lt h c)
theorem crc_lt (l : List UInt8) : crc l < 16777216 := sumFrom_lt l init_lt
theorem sumFrom_append (a b : List UInt8) : ∀ x : Nat, sumFrom x (a ++ b) = sumFrom (sumFrom x a) b := by
  induction a with
  | nil => intro x; rfl
  | cons c a ih => intro x; rw [List.cons_append, sumFrom_cons, sumFrom_cons, ih]
theorem sumFrom_snoc (a : List UInt8) (c : UInt8) (x : Nat) : sumFrom x (a ++ [c]) = cstep (sumFrom x a) c := by rw [sumFrom_append, sumFrom_cons, sumFrom_nil]
/-- The three bytes of a number, the highest first. -/
def three (n : Nat) : List UInt8 := [UInt8.ofNat (n / 65536), UInt8.ofNat (n / 256), UInt8.ofNat n]
end Go.Proofs.YtnplommdgfgboaaGreatDoor.CrcPure
set_option linter.unusedVariables false
set_option linter.unusedSimpArgs false
namespace Go.Proofs.YtnplommdgfgboaaGreatDoor.BoxPure
open Go.Proofs.YtnplommdgfgboaaGreatDoor.CrcPure
abbrev Sec := Int × List UInt8
/-- IDs rise from above a number on. -/
def rising : Int → List Sec → Bool
  | _, [] => true
  | last, x :: l => decide (last < x.1) && (decide (x.1 ≤ 255) && rising x.1 l)
def total : List Sec → Nat
  | [] => 0
  | x :: l => x.2.length + total l
def May (l : List Sec) : Prop := l.length ≤ 8 ∧ rising 0 l = true ∧ 9 + 7 * l.length + total l ≤ 100000
instance (l : List Sec) : Decidable (May l) := by unfold May; exact inferInstance
def idB (n : Int) : UInt8 := UInt8.ofNat (n % 256).toNat
def head1 (x : Sec) : List UInt8 := idB x.1 :: (three x.2.length ++ three (crc x.2))
def heads : List Sec → List UInt8
  | [] => []
  | x :: l => head1 x ++ heads l
def bodies : List Sec → List UInt8
  | [] => []
  | x :: l => x.2 ++ bodies l
def title : List UInt8 := [84, 82, 73, 86, 1]
def header (l : List Sec) : List UInt8 := title ++ (UInt8.ofNat l.length :: heads l)
def file (l : List Sec) : List UInt8 := header l ++ three (crc (header l)) ++ bodies l
theorem three_length (n : Nat) : (three n).length = 3 := rfl
theorem head1_length (x : Sec) : (head1 x).length = 7 := by simp [head1, three_length]
theorem heads_length : ∀ l : List Sec, (heads l).length = 7 * l.length
  | [] => rfl
  | x :: l => by simp only [heads, List.length_append, head1_length, heads_length l, List.length_cons]; omega
theorem bodies_length : ∀ l : List Sec, (bodies l).length = total l
  | [] => rfl
  | x :: l => by simp only [bodies, List.length_append, bodies_length l, total]
theorem header_length (l : List Sec) : (header l).length = 6 + 7 * l.length := by
  simp only [header, title, List.length_append, List.length_cons, List.length_nil, heads_length]; omega
theorem heads_append (a b : List Sec) : heads (a ++ b) = heads a ++ heads b := by
  induction a with
  | nil => rfl
  | cons x a ih => rw [List.cons_append, heads, heads, ih, List.append_assoc]
theorem bodies_append (a b : List Sec) : bodies (a ++ b) = bodies a ++ bodies b := by
  induction a with
  | nil => rfl
  | cons x a ih => rw [List.cons_append, bodies, bodies, ih, List.append_assoc]
theorem total_append (a b : List Sec) : total (a ++ b) = total a + total b := by
  induction a with
  | nil => simp [total]
  | cons x a ih => rw [List.cons_append, total, total, ih]; omega
/-- The last ID of sections, from a number on. -/
def lastID : Int → List Sec → Int
  | n, [] => n
  | _, x :: l => lastID x.1 l
theorem rising_snoc (x : Sec) : ∀ (l : List Sec) (n : Int), rising n (l ++ [x]) = (rising n l && (decide (lastID n l < x.1) && decide (x.1 ≤ 255)))
  | [], n => by rw [List.nil_append, rising, rising, rising, lastID, Bool.and_true, Bool.true_and]
  | y :: l, n => by
    rw [List.cons_append, rising, rising, rising_snoc x l, lastID]
    simp only [Bool.and_assoc]
theorem rising_append_left : ∀ (a b : List Sec) (n : Int), rising n (a ++ b) = true → rising n a = true
  | [], _, _, _ => rfl
  | y :: a, b, n, h => by
    rw [List.cons_append, rising, Bool.and_eq_true, Bool.and_eq_true] at h
    rw [rising, h.1, h.2.1, rising_append_left a b _ h.2.2]
    rfl
theorem lastID_snoc (x : Sec) : ∀ (l : List Sec) (n : Int), lastID n (l ++ [x]) = x.1
  | [], _ => rfl
  | y :: l, n => by rw [List.cons_append, lastID, lastID_snoc x l]
theorem take_snoc {α : Type} (l : List α) (k : Nat) (h : k < l.length) : l.take (k + 1) = l.take k ++ [l[k]] := List.take_succ_eq_append_getElem h
theorem total_snoc (l : List Sec) (k : Nat) (h : k < l.length) : total (l.take (k + 1)) = total (l.take k) + l[k].2.length := by
  rw [take_snoc l k h, total_append]; simp [total]
theorem heads_snoc (l : List Sec) (k : Nat) (h : k < l.length) : heads (l.take (k + 1)) = heads (l.take k) ++ head1 l[k] := by
  rw [take_snoc l k h, heads_append]; simp [heads]
theorem bodies_snoc (l : List Sec) (k : Nat) (h : k < l.length) : bodies (l.take (k + 1)) = bodies (l.take k) ++ l[k].2 := by
  rw [take_snoc l k h, bodies_append]; simp [bodies]
theorem rising_snoc' (l : List Sec) (k : Nat) (h : k < l.length) (n : Int) : rising n (l.take (k + 1)) = (rising n (l.take k) && (decide (lastID n (l.take k) < l[k].1) && decide (l[k].1 ≤ 255))) := by
  rw [take_snoc l k h, rising_snoc]
theorem lastID_snoc' (l : List Sec) (k : Nat) (h : k < l.length) (n : Int) : lastID n (l.take (k + 1)) = l[k].1 := by
  rw [take_snoc l k h, lastID_snoc]
theorem total_take (l : List Sec) (k : Nat) : total (l.take k) ≤ total l := by
  conv => rhs; rw [← List.take_append_drop k l, total_append]
  omega
theorem rising_take (l : List Sec) (k : Nat) (n : Int) (h : rising n l = true) : rising n (l.take k) = true := by
  rw [← List.take_append_drop k l] at h
  exact rising_append_left _ _ _ h
def num (h : List UInt8) : Nat := (h.getD 0 0).toNat * 65536 + (h.getD 1 0).toNat * 256 + (h.getD 2 0).toNat
theorem num_three (n : Nat) (hn : n < 16777216) (z : List UInt8) : num (three n ++ z) = n := by
  unfold num three
  simp only [List.cons_append, List.getD_cons_zero, List.getD_cons_succ, UInt8.toNat_ofNat']
  omega
def secs : Nat → List UInt8 → List UInt8 → Option (List Sec)
  | 0, _, _ => some []
  | n + 1, h, b =>
    if b.length < num (h.drop 1) then none
    else (secs n (h.drop 7) (b.drop (num (h.drop 1)))).map fun l => (((h.getD 0 0).toNat : Int), b.take (num (h.drop 1))) :: l
theorem idB_val {n : Int} (h1 : 0 ≤ n) (h2 : n ≤ 255) : ((idB n).toNat : Int) = n := by
  unfold idB
  rw [UInt8.toNat_ofNat']
  omega
theorem secs_back : ∀ (l : List Sec) (n : Int), 0 ≤ n → rising n l = true → total l < 16777216 → ∀ z z' : List UInt8, secs l.length (heads l ++ z) (bodies l ++ z') = some l
  | [], _, _, _, _, _, _ => rfl
  | x :: l, n, hn, hr, ht, z, z' => by
    rw [rising, Bool.and_eq_true, Bool.and_eq_true, decide_eq_true_eq, decide_eq_true_eq] at hr
    rw [total] at ht
    have ih := secs_back l x.1 (by omega) hr.2.2 (by omega) z z'
    have e1 : (heads (x :: l) ++ z).drop 1 = three x.2.length ++ (three (crc x.2) ++ (heads l ++ z)) := by
      simp only [heads, head1, List.cons_append, List.drop_succ_cons, List.drop_zero, List.append_assoc]
    have e7 : (heads (x :: l) ++ z).drop 7 = heads l ++ z := by
      rw [heads, List.append_assoc, List.drop_left' (head1_length x)]
    have e0 : (heads (x :: l) ++ z).getD 0 0 = idB x.1 := by
      simp only [heads, head1, List.cons_append, List.getD_cons_zero]
    have eb : bodies (x :: l) ++ z' = x.2 ++ (bodies l ++ z') := by rw [bodies, List.append_assoc]
    rw [List.length_cons, secs, e1, e7, e0, eb, num_three _ (by omega), if_neg (by rw [List.length_append]; omega), List.drop_left, List.take_left, ih]
    simp only [Option.map_some]
    rw [idB_val (by omega) (by omega)]
/-- What is read of a file's bytes, whatever stands behind. -/
def parse (b : List UInt8) : Option (List Sec) := secs (b.getD 5 0).toNat (b.drop 6) (b.drop (9 + 7 * (b.getD 5 0).toNat))
theorem file_count {l : List Sec} (h : l.length ≤ 8) (z : List UInt8) : ((file l ++ z).getD 5 0).toNat = l.length := by
  simp only [file, header, title, List.cons_append, List.nil_append, List.getD_cons_succ, List.getD_cons_zero, UInt8.toNat_ofNat']
  omega
theorem file_drop6 (l : List Sec) (z : List UInt8) : (file l ++ z).drop 6 = heads l ++ (three (crc (header l)) ++ bodies l ++ z) := by
  simp only [file, header, title, List.cons_append, List.nil_append, List.drop_succ_cons, List.drop_zero, List.append_assoc]
theorem file_dropAll (l : List Sec) (z : List UInt8) : (file l ++ z).drop (9 + 7 * l.length) = bodies l ++ z := by
  have : file l ++ z = (header l ++ three (crc (header l))) ++ (bodies l ++ z) := by simp only [file, List.append_assoc]
  rw [this, List.drop_left']
  rw [List.length_append, header_length, three_length]
  omega
theorem parse_file {l : List Sec} (h : May l) (z : List UInt8) : parse (file l ++ z) = some l := by
  unfold parse
  rw [file_count h.1, file_drop6, file_dropAll]
  exact secs_back l 0 (by omega) h.2.1 (by have := h.2.2; omega) _ _
/-- A file tells its sections; nothing that begins so is another. -/
theorem file_prefix {l l' : List Sec} (h : May l) (h' : May l') {z : List UInt8} (e : file l' ++ z = file l) : l' = l ∧ z = [] := by
  have h1 := parse_file h' z
  have h2 := parse_file h []
  rw [List.append_nil] at h2
  rw [e, h2] at h1
  cases h1
  refine ⟨rfl, ?_⟩
  have := congrArg List.length e
  rw [List.length_append] at this
  exact List.eq_nil_of_length_eq_zero (by omega)
theorem file_inj {l l' : List Sec} (h : May l) (h' : May l') (e : file l' = file l) : l' = l := (file_prefix h h' (z := []) (by rw [List.append_nil]; exact e)).1
end Go.Proofs.YtnplommdgfgboaaGreatDoor.BoxPure
set_option linter.unusedVariables false
set_option linter.unusedSimpArgs false
namespace Go.Proofs.YtnplommdgfgboaaGreatDoor.StoreP
open Go.Lib Go.Proofs.YtnplommdgfgboaaGreatDoor.TermPure Go.Proofs.YtnplommdgfgboaaGreatDoor.LinesPure Go.Proofs.YtnplommdgfgboaaGreatDoor.Tri Go.Proofs.YtnplommdgfgboaaGreatDoor.SortP Go.Proofs.YtnplommdgfgboaaGreatDoor.OrdG Go.Proofs.YtnplommdgfgboaaGreatDoor.ParseP Go.Proofs.YtnplommdgfgboaaGreatDoor.FrontP Go.Proofs.YtnplommdgfgboaaGreatDoor.PackW Go.Proofs.YtnplommdgfgboaaGreatDoor.PackP Go.Proofs.YtnplommdgfgboaaGreatDoor.BoxPure
theorem shown_short {t : Term} (h : is t = true) : (shown t).length ≤ 246 := by
  have hq := Show.quoted_len t.text
  unfold is at h
  unfold shown
  by_cases h1 : t.kind = 1
  · rw [if_pos h1] at h ⊢
    unfold isIRI at h
    simp only [Bool.and_eq_true, decide_eq_true_eq] at h
    simp
    omega
  rw [if_neg h1] at h ⊢
  by_cases h2 : t.kind = 2
  · rw [if_pos h2] at h ⊢
    unfold isLabel at h
    simp only [Bool.and_eq_true, decide_eq_true_eq] at h
    simp
    omega
  rw [if_neg h2] at h ⊢
  by_cases h3 : t.kind = 3
  · rw [if_pos h3] at h
    unfold isText at h
    simp only [Bool.and_eq_true, decide_eq_true_eq] at h
    rw [if_neg (by omega), if_neg (by omega)]
    omega
  rw [if_neg h3] at h
  by_cases h4 : t.kind = 4
  · rw [if_pos h4] at h ⊢
    unfold isText isLang at h
    simp only [Bool.and_eq_true, decide_eq_true_eq] at h
    simp
    omega
  rw [if_neg h4] at h ⊢
  by_cases h5 : t.kind = 5
  · rw [if_pos h5] at h ⊢
    unfold isText isIRI at h
    simp only [Bool.and_eq_true, decide_eq_true_eq] at h
    simp
    omega
  · rw [if_neg h5] at h
    cases h
theorem shown_ne {t : Term} (h : is t = true) : shown t ≠ [] := by
  unfold shown TermPure.quoted
  repeat' split
  all_goals simp
/-- A row's numbers, one behind the other. -/
def nums (I : List Ids) : List Nat := I.flatMap fun x => [x.a, x.b, x.c]
theorem nums_len (I : List Ids) : (nums I).length = 3 * I.length := by
  induction I with
  | nil => rfl
  | cons x I ih =>
    show (nums I).length + 3 = _
    rw [ih, List.length_cons]
    omega
theorem nums_inj : ∀ {I J : List Ids}, nums I = nums J → I = J
  | [], [], _ => rfl
  | [], y :: J, h => by cases h
  | x :: I, [], h => by cases h
  | x :: I, y :: J, h => by
    injection h with h1 h
    injection h with h2 h
    injection h with h3 h
    have : x = y := by cases x; cases y; simp_all
    rw [this, nums_inj h]
def texts (T : List Triple) : List (List UInt8) := (termsT T).map shown
def wide (T : List Triple) : Nat := Lib.bitLen (termsT T).length
def secs2 (T : List Triple) : List Sec := [(1, frontB (texts T)), (2, headN T.length ++ packB (nums (idsT T)) (wide T))]
def encT (T : List Triple) : List UInt8 := file (secs2 T)
theorem texts_short {T : List Triple} (h : Valid T) : ∀ x ∈ texts T, x.length ≤ 246 := fun x hx => by
  obtain ⟨t, ht, rfl⟩ := List.mem_map.1 hx
  exact shown_short (termsT_is h t ht)
theorem texts_rise {T : List Triple} (h : Valid T) : (texts T).Pairwise (· < ·) := by
  unfold texts
  rw [List.pairwise_map]
  exact termsT_rise h
theorem lt_bitLen (x : Nat) (h : x < 2 ^ 64) : x < 2 ^ Lib.bitLen x := by
  by_cases h0 : x = 0
  · subst h0; exact Nat.two_pow_pos _
  · exact (Lib.bitLenAux_bounds 64 x h h0).2.2
theorem E_len {T : List Triple} (h : Valid T) (hl : T.length ≤ 100) : (termsT T).length ≤ 300 := by
  have h1 := Made.terms_len h
  have h2 := Made.inT_len T
  omega
theorem wide_le {T : List Triple} (h : Valid T) (hl : T.length ≤ 100) : wide T ≤ 9 := by
  have := E_len h hl
  exact Lib.bitLen_le _ 9 (by decide) (by omega)
theorem nums_small {T : List Triple} (h : Valid T) (hl : T.length ≤ 100) : ∀ n ∈ nums (idsT T), n ≤ 300 ∧ n < 2 ^ wide T := by
  intro n hn
  have hE := E_len h hl
  have hb : n ≤ (termsT T).length := by
    unfold nums idsT at hn
    obtain ⟨x, hx, hn⟩ := List.mem_flatMap.1 hn
    obtain ⟨t, ht, rfl⟩ := List.mem_map.1 hx
    have key : ∀ y, idOf (termsT T) y ≤ (termsT T).length := fun y => by
      unfold idOf
      split
      · rename_i hy
        have := List.idxOf_lt_length_of_mem hy
        omega
      · omega
    unfold idsOf at hn
    simp at hn
    rcases hn with rfl | rfl | rfl <;> exact key _
  have := lt_bitLen (termsT T).length (by omega)
  unfold wide
  omega
theorem nums_bits {T : List Triple} (h : Valid T) (hl : T.length ≤ 100) : ∀ n ∈ nums (idsT T), n ≤ 1000000 ∧ Lib.bitLen n ≤ wide T := by
  intro n hn
  obtain ⟨h1, h2⟩ := nums_small h hl n hn
  exact ⟨by omega, Lib.bitLen_le _ _ (by have := wide_le h hl; omega) h2⟩
theorem front_len {T : List Triple} (h : Valid T) (hl : T.length ≤ 100) : (frontB (texts T)).length ≤ 74402 := by
  have hE := E_len h hl
  have h1 := upTo_len (texts_short h) (texts T).length (Nat.le_refl _)
  have h2 : (texts T).length = (termsT T).length := by unfold texts; simp
  unfold frontB headN
  rw [List.length_append]
  simp only [List.length_cons, List.length_nil]
  have : (texts T).length * (246 + 2) ≤ 300 * 248 := Nat.mul_le_mul (by omega) (Nat.le_refl _)
  omega
theorem ids_len (T : List Triple) : (idsT T).length = T.length := by unfold idsT; simp
theorem body_len {T : List Triple} (h : Valid T) (hl : T.length ≤ 100) : (headN T.length ++ packB (nums (idsT T)) (wide T)).length ≤ 400 := by
  have h1 := wide_le h hl
  rw [List.length_append, packB_len, nums_len, ids_len]
  have : 3 * T.length * wide T ≤ 300 * 9 := Nat.mul_le_mul (by omega) h1
  unfold headN
  simp only [List.length_cons, List.length_nil]
  omega
theorem enc_may {T : List Triple} (h : Valid T) (hl : T.length ≤ 100) : May (secs2 T) := by
  have h1 := front_len h hl
  have h2 := body_len h hl
  unfold May secs2
  refine ⟨by simp, by simp [rising], ?_⟩
  simp only [total, List.length_cons, List.length_nil]
  omega
theorem map_shown_inj : ∀ {a b : List Term}, (∀ x ∈ a, is x = true) → (∀ x ∈ b, is x = true) → a.map shown = b.map shown → a = b
  | [], [], _, _, _ => rfl
  | [], y :: b, _, _, h => by cases h
  | x :: a, [], _, _, h => by cases h
  | x :: a, y :: b, ha, hb, h => by
    rw [List.map_cons, List.map_cons] at h
    injection h with h1 h2
    rw [shown_inj (ha x (by simp)) (hb y (by simp)) h1, map_shown_inj (fun z hz => ha z (by simp [hz])) (fun z hz => hb z (by simp [hz])) h2]
theorem ids_inj {E : List Term} : ∀ {T U : List Triple}, (∀ x ∈ inTriples T, x ∈ E) → (∀ x ∈ inTriples U, x ∈ E) → T.map (idsOf E) = U.map (idsOf E) → T = U
  | [], [], _, _, _ => rfl
  | [], y :: b, _, _, h => by cases h
  | x :: a, [], _, _, h => by cases h
  | x :: T, y :: U, hT, hU, h => by
    rw [List.map_cons, List.map_cons] at h
    injection h with h1 h2
    obtain ⟨a1, a2, a3⟩ := mem_three (T := x :: T) (t := x) (by simp)
    obtain ⟨b1, b2, b3⟩ := mem_three (T := y :: U) (t := y) (by simp)
    unfold idsOf at h1
    injection h1 with e1 e2 e3
    have := (idx_eq (hT _ a1) (hU _ b1)).1 e1
    have := (idx_eq (hT _ a2) (hU _ b2)).1 e2
    have := (idx_eq (hT _ a3) (hU _ b3)).1 e3
    have hxy : x = y := by cases x; cases y; simp_all
    have sub : ∀ (z : Triple) (V : List Triple) (w : Term), w ∈ inTriples V → w ∈ inTriples (z :: V) := fun z V w hw => by
      unfold inTriples at *
      rw [List.flatMap_cons]
      exact List.mem_append.2 (.inr hw)
    rw [hxy, ids_inj (fun z hz => hT z (sub _ _ _ hz)) (fun z hz => hU z (sub _ _ _ hz)) h2]
/-- Of unlike sets the files are unlike. -/
theorem encT_inj {T U : List Triple} (hT : Valid T) (hU : Valid U) (lT : T.length ≤ 100) (lU : U.length ≤ 100) (h : encT T = encT U) : T = U := by
  have hs := file_inj (enc_may hU lU) (enc_may hT lT) h
  unfold secs2 at hs
  injection hs with h1 h2
  injection h2 with h2 _
  injection h1 with _ h1
  injection h2 with _ h2
  have s1 := texts_short hT
  have s2 := texts_short hU
  have n1 := E_len hT lT
  have n2 := E_len hU lU
  have c1 : (texts T).length = (termsT T).length := by unfold texts; simp
  have c2 : (texts U).length = (termsT U).length := by unfold texts; simp
  have hx : texts T = texts U := frontB_inj (fun x hx => by have := s1 x hx; omega) (fun x hx => by have := s2 x hx; omega) (by omega) (by omega) h1
  have hE : termsT T = termsT U := map_shown_inj (termsT_is hT) (termsT_is hU) hx
  obtain ⟨e1, e2⟩ := List.append_inj h2 (by simp [headN])
  have hlen := head_inj (by omega) (by omega) e1
  have hwd : wide T = wide U := by unfold wide; rw [hE]
  rw [hwd] at e2
  have a1 := nums_small hT lT
  have a2 := nums_small hU lU
  rw [hwd] at a1
  have hn := packB_inj (by rw [nums_len, nums_len, ids_len, ids_len, hlen]) (fun n hn => (a1 n hn).2) (fun n hn => (a2 n hn).2) e2
  have hi := nums_inj hn
  unfold idsT at hi
  rw [hE] at hi
  exact ids_inj (fun x hx => by rw [← hE]; exact (termsT_mem hT x).2 hx) (fun x hx => (termsT_mem hU x).2 hx) hi
end Go.Proofs.YtnplommdgfgboaaGreatDoor.StoreP
set_option linter.unusedVariables false
set_option linter.unusedSimpArgs false
namespace Go.Proofs.YtnplommdgfgboaaGreatDoor.FrontW
open Go.RowKit Go.Lib Go.Proofs.YtnplommdgfgboaaGreatDoor.B Go.Proofs.YtnplommdgfgboaaGreatDoor.Rd Go.Proofs.YtnplommdgfgboaaGreatDoor.StoreW Go.Proofs.YtnplommdgfgboaaGreatDoor.Clones Go.Proofs.YtnplommdgfgboaaGreatDoor.FrontP
def strs (l : List (List UInt8)) : List ByteArray := l.map mkS
theorem strs_len (l : List (List UInt8)) : (strs l).length = l.length := by simp [strs]
theorem str_cells {w : World} {ok : Nat → Prop} {l : List (List UInt8)} {A : Option Addr} {c : Nat} (h : strK.sl.M w ok (strs l) [.slice A l.length c]) (hp : 0 < l.length) :
    ∃ b off, A = some ⟨b, off, none⟩ ∧ ok b ∧ b < w.heap.size ∧ ∀ i (hi : i < l.length), w.cell? ⟨b, off + i, none⟩ = some (.string (mkS l[i])) := by
  obtain ⟨A', c', he, hlc, _, hA, hrow⟩ := h
  have hz : (strs l).length = l.length := strs_len l
  obtain ⟨rfl, rfl⟩ : A = A' ∧ c = c' := by simpa [hz] using he
  obtain ⟨b, off, hAe, hok, hcells⟩ := Kd.row_plain rfl hrow (by omega)
  have hget : ∀ i (hi : i < l.length), w.cell? ⟨b, off + i, none⟩ = some (.string (mkS l[i])) := fun i hi => by
    obtain ⟨u, hu, hM⟩ := hcells i (by omega)
    have e : (strs l)[i]'(by omega) = mkS l[i] := by simp [strs]
    rw [e] at hM
    obtain ⟨h1, _⟩ := hM
    simp at h1
    rw [hu, h1]
  exact ⟨b, off, hAe, hok, cell_lt (hget 0 hp), hget⟩
/-- A dictionary. -/
def DictAt (w : World) (ok : Nat → Prop) (g : Nat) (l : List (List UInt8)) : Prop := ∃ A c, w.cell? ⟨g, 0, none⟩ = some (.slice A l.length c) ∧ strK.sl.M w ok (strs l) [.slice A l.length c]
theorem own_cells {e : TypeId} {w : World} {base : Nat} {ok : Nat → Prop} {v : Value} {l : List UInt8} (h : byteK.own e w base ok v l) : w.ownsRow base e 1 v l.length (Lib.byteCells l) := by
  obtain ⟨_, cells, ho, hr⟩ := h
  have ho1 : w.ownsRow base e 1 v l.length cells := ho
  have hl : cells.length = l.length := by simpa using ho1.1
  have : cells = Lib.byteCells l := by
    refine List.ext_getElem (by rw [hl]; simp [Lib.byteCells]) fun i h1 h2 => ?_
    have hi : i < l.length := by omega
    have hM : ((cells.drop (i * 1)).take 1) = [.int .u8 (l[i].toNat : Int)] := hr i l[i] (List.getElem?_eq_getElem hi)
    rw [Nat.mul_one, List.drop_eq_getElem_cons h1, List.take_succ_cons, List.take_zero] at hM
    injection hM with hM _
    rw [hM]
    simp [Lib.byteCells]
  rw [← this]
  exact ho1
theorem own_of_cells {e : TypeId} {w : World} {base : Nat} {ok : Nat → Prop} {v : Value} {l : List UInt8} (hl : l.length ≤ 140737488355328) (h : w.ownsRow base e 1 v l.length (Lib.byteCells l)) : byteK.own e w base ok v l := by
  refine ⟨hl, Lib.byteCells l, h, fun i x hx => ?_⟩
  exact u8_lit l i x hx
section
variable {W w0 : World} {ops : Array Oper} {rest : List Oper} {o : Oper} {a : Act} {Q : Exit → Act → World → Prop}
/-- At the append of a text's bytes. -/
theorem own_app_str (hgd : o.guard = none) (sl x : Operand) (ho : o.op = .call { callee := .builtin .append, args := #[sl, x], argTypes := #[55, 9] })
    (base : Nat) (v : Value) (xs l : List UInt8) (hs : a.eval sl = v) (hx : a.eval x = .string (mkS l)) (HO : byteK.own 5 W base TT v xs) (HB : Below base w0 W) (hbase : base ≤ W.heap.size) (hl : xs.length + l.length ≤ 140737488355328)
    (h : ∀ v1 w1, byteK.own 5 w1 base TT v1 (xs ++ l) → Below base w0 w1 → W.grownBy w1 v.ownBlock → wpList Tryz.prog ops Q rest (a.put o.dst v1) w1) : wpList Tryz.prog ops Q (o :: rest) a W := by
  obtain ⟨i0, hi, hz0, hz1, hz2⟩ := info_parts Tryz.Builder_Extra_159.infoByte
  have zl := mkS_size l
  have hlt := Kd.own_lt HO
  refine Lib.wpList_append_own_string W hgd sl x 55 9 ho base 5 i0 Tryz.underlying55 Tryz.underlying9 hi hz0 hz1 hz2 v _ _ hs (own_cells HO) (mkS l) hx (by rw [zl]; unfold maxLen; omega) (by rw [zl]; omega) hbase ?_
  intro v1 w1 hown hg _
  refine h v1 w1 (own_of_cells (by rw [List.length_append]; omega) ?_) (HB.grown hg hbase (fun k hk => (hlt k hk).1)) hg
  rw [Bld.strCells_eq, Bld.byteCells_append, zl] at hown
  rw [List.length_append]
  exact hown
end
set_option maxHeartbeats 3200000 in
set_option maxRecDepth 100000 in
theorem shared_calls (a b : List UInt8) (ha : a.length ≤ 140737488355328) (hb : b.length ≤ 140737488355328) (w : World) : Calls Tryz.prog 105 #[.string (mkS a), .string (mkS b)] w fun e w' => e = .returned (.int .i64 (shared a b : Nat)) ∧ Below w.heap.size w w' := by
  have za := mkS_size a
  have zb := mkS_size b
  have HS := Lib.hid (shared_at a b)
  obtain ⟨v, hv⟩ : ∃ v, v = shared a b := ⟨_, rfl⟩
  rw [← hv] at HS
  rw [← hv]
  clear hv
  go_enter Tryz.func105, Tryz.ntmps105
  go_wp2
  go_loopw [5] (fun vn wr => ∃ n : Nat, vn = .int .i64 n ∧ n ≤ a.length ∧ n ≤ b.length ∧ Hid (a.take n = b.take n ∧ Below w.heap.size w wr)) (fun vn _ => a.length - (intOf vn).toNat)
  case atStart => exact ⟨0, rfl, by omega, by omega, Lib.hid ⟨rfl, Below.refl _ _⟩⟩
  case round =>
    obtain ⟨n, rfl, hna, hnb, HI⟩ := hrel
    have HBd := Lib.hid (fun q => bel_drewN HI.out.2 q)
    by_cases h1 : n < a.length
    · have d1 : decide (n < a.length) = true := decide_eq_true h1
      have e1 : decide ((n : Int) < (a.length : Int)) = true := decide_eq_true (by omega)
      by_cases h2 : n < b.length
      · have d2 : decide (n < b.length) = true := decide_eq_true h2
        have e2 : decide ((n : Int) < (b.length : Int)) = true := decide_eq_true (by omega)
        have ka : n < (mkS a).size := by rw [za]; exact h1
        have kb : n < (mkS b).size := by rw [zb]; exact h2
        have ga : (mkS a)[n]'ka = a[n] := Rd.mkS_get a n ka h1
        have gb : (mkS b)[n]'kb = b[n] := Rd.mkS_get b n kb h2
        obtain ⟨x, hx⟩ : ∃ x, x = a[n] := ⟨_, rfl⟩
        obtain ⟨y, hy⟩ : ∃ y, y = b[n] := ⟨_, rfl⟩
        rw [← hx] at ga
        rw [← hy] at gb
        have jn : (n : Int) < (a.length : Int) := by omega
        have jm : (n : Int) < (b.length : Int) := by omega
        obtain ⟨p, hp⟩ : ∃ p, p = x.toNat := ⟨_, rfl⟩
        obtain ⟨q, hq⟩ : ∃ q, q = y.toNat := ⟨_, rfl⟩
        have hxp : x.toNat = p := hp.symm
        have hyq : y.toNat = q := hq.symm
        by_cases h3 : x = y
        · have hpq : ((p : Int) == (q : Int)) = true := by rw [hp, hq, h3]; simp
          have hab : a[n] = b[n] := hx.symm.trans (h3.trans hy)
          have HN : Hid (a.take (n + 1) = b.take (n + 1)) := Lib.hid ((List.take_succ_eq_append_getElem h1).trans ((congr (congrArg (fun (u : List UInt8) (z : List UInt8) => u ++ z) HI.out.1) (congrArg (fun (q : UInt8) => [q]) hab)).trans (List.take_succ_eq_append_getElem h2).symm))
          clear h3 hx hy hp hq HI
          go_upto_region 2 with fail
          go_quiet (fail)
          go_wp2
          go_roundw
          case rel => exact ⟨n + 1, by go_num, by omega, by omega, Lib.hid ⟨HN.out, HBd.out _⟩⟩
          case measure => simp [intOf]; omega
        · have hpq : ((p : Int) == (q : Int)) = false := by
            rw [beq_eq_false_iff_ne, hp, hq]
            intro h
            exact h3 (UInt8.toNat_inj.1 (by omega))
          have HN : Hid (v = n) := Lib.hid (HS.out n hna hnb HI.out.1 (fun _ _ he => h3 (hx.trans (he.trans hy.symm))))
          clear h3 hx hy hp hq HI
          go_upto_region 2 with fail
          go_quiet (fail)
          go_wp2
          go_ret
          exact ⟨by rw [HN.out]; rfl, HBd.out _⟩
      · have d2 : decide (n < b.length) = false := decide_eq_false h2
        have e2 : decide ((n : Int) < (b.length : Int)) = false := decide_eq_false (by omega)
        have HN : Hid (v = n) := Lib.hid (HS.out n hna hnb HI.out.1 (fun _ h => absurd h h2))
        clear HI
        go_upto_region 2 with fail
        go_quiet (fail)
        go_wp2
        go_ret
        exact ⟨by rw [HN.out]; rfl, HBd.out _⟩
    · have d1 : decide (n < a.length) = false := decide_eq_false h1
      have e1 : decide ((n : Int) < (a.length : Int)) = false := decide_eq_false (by omega)
      have HN : Hid (v = n) := Lib.hid (HS.out n hna hnb HI.out.1 (fun h _ => absurd h h1))
      clear HI
      go_upto_region 2 with fail
      go_quiet (fail)
      go_wp2
      go_ret
      exact ⟨by rw [HN.out]; rfl, HBd.out _⟩
set_option maxHeartbeats 3200000 in
set_option maxRecDepth 100000 in
theorem new_calls (l : List (List UInt8)) (hl : l.length ≤ 300) (hs : ∀ x ∈ l, x ≠ [] ∧ x.length ≤ 250) (hr : l.Pairwise (· < ·)) (A : Option Addr) (c : Nat) (w : World) (HL : strK.sl.M w (fun _ => True) (strs l) [.slice A l.length c]) :
    Calls Tryz.prog 57 #[.slice A l.length c] w fun e w' => (∃ g, e = .returned (.tuple #[.pointer (some ⟨g, 0, none⟩), .int .i64 0]) ∧ w.heap.size ≤ g ∧ DictAt w' (fun _ => True) g l) ∧ Below w.heap.size w w' := by
  have HC := Lib.hid (clone_str_calls (strs l) A c w (by rw [strs_len]; exact HL) (by rw [strs_len]; omega))
  rw [strs_len] at HC
  have HRow := Lib.hid (fun hp => str_cells HL hp)
  have HS := Lib.hid hs
  have HR := Lib.hid hr
  have h300 : decide ((300 : Int) < (l.length : Int)) = false := decide_eq_false (by omega)
  clear hs hr HL
  go_enter Tryz.func57, Tryz.ntmps57
  go_wp2
  go_loopw [11] (fun vk wr => ∃ k : Nat, vk = .int .i64 k ∧ k ≤ l.length ∧ w = wr) (fun vk _ => l.length - (intOf vk).toNat)
  case atStart => exact ⟨0, rfl, by omega, rfl⟩
  case round =>
    obtain ⟨k, rfl, hk, rfl⟩ := hrel
    by_cases hlt : k < l.length
    · have hd : decide ((k : Int) < (l.length : Int)) = true := decide_eq_true (by omega)
      have hd2 : decide (k < l.length) = true := decide_eq_true hlt
      have ik : (k : Int) < (l.length : Int) := by omega
      obtain ⟨b, off, rfl, _, hbs, hcells⟩ := HRow.out (by omega)
      have hcx := hcells k hlt
      obtain ⟨x, hx⟩ : ∃ x, x = l[k] := ⟨_, rfl⟩
      rw [← hx] at hcx
      have hxs := HS.out x (by rw [hx]; exact List.getElem_mem hlt)
      have zx := mkS_size x
      have tx := mkS_toList x
      have hemp : x.isEmpty = false := by cases x with
        | nil => exact absurd rfl hxs.1
        | cons a x => rfl
      have hem2 : (x == []) = false := by simpa using hxs.1
      have h250 : decide ((250 : Int) < (x.length : Int)) = false := decide_eq_false (by omega)
      by_cases h0 : k = 0
      · subst h0
        clear hcells hx hxs
        simp only [Nat.add_zero] at hcx
        go_wp2
        go_roundw
        case rel => exact ⟨1, by go_num, by omega, trivial⟩
        case measure => simp [intOf]; omega
      · have hk0 : decide ((0 : Int) < (k : Int)) = true := decide_eq_true (by omega)
        obtain ⟨j, hj⟩ : ∃ j, j = k - 1 := ⟨_, rfl⟩
        have hw1 : IntKind.i64.wrap ((k : Int) - 1) = (j : Int) := by rw [IntKind.wrap_i64]; omega
        have ij : (j : Int) < (l.length : Int) := by omega
        have hjl : j < l.length := by omega
        have hcy := hcells j hjl
        obtain ⟨y, hy⟩ : ∃ y, y = l[j] := ⟨_, rfl⟩
        rw [← hy] at hcy
        have hyx : y < x := by rw [hx, hy]; exact List.pairwise_iff_getElem.1 HR.out j k hjl hlt (by omega)
        have hless : Op.bytesLess (mkS y).toList (mkS x).toList = true := by rw [Cmp.less_eq]; exact decide_eq_true hyx
        have ty := mkS_toList y
        have hless2 : Op.bytesLess y x = true := by rw [Go.Proofs.bytesLess_eq]; exact decide_eq_true hyx
        clear hcells hx hy hxs hyx hj
        go_wp2
        go_roundw
        case rel => exact ⟨k + 1, by go_num, by omega, trivial⟩
        case measure => simp [intOf]; omega
    · have hd : decide ((k : Int) < (l.length : Int)) = false := decide_eq_false (by omega)
      have hd2 : decide (k < l.length) = false := decide_eq_false hlt
      go_wp2_with fail
      refine HC.out.mono ?_
      rintro e w2 ⟨⟨v, rfl, ho⟩, hb⟩
      obtain ⟨A1, c1, rfl, _, _⟩ := Kd.own_slice ho
      rw [strs_len] at ho ⊢
      have hM : strK.sl.M w2 (fun _ => True) (strs l) [.slice A1 l.length c1] := Kd.own_sl (ok := TT) ho (fun k hk => trivial) (fun k hk => trivial)
      have HB2 := Lib.hid (bel_alloc hb (.cells #[.slice A1 l.length c1] 155))
      have HD : Hid (DictAt (w2.alloc (.cells #[.slice A1 l.length c1] 155)) (fun _ => True) w2.heap.size l) := Lib.hid ⟨A1, c1, by unfold World.cell?; dsimp only; rw [Kd.heap_new]; rfl, Kd.M_below (Kd.M_bound hM) (bel_alloc (Below.refl _ _) _) |> strK.sl.mono (fun _ _ _ => trivial)⟩
      have HZ := Lib.hid hb.size
      clear ho hM hb HC
      go_wp2
      go_ret2
      exact ⟨⟨_, rfl, HZ.out, HD.out⟩, HB2.out⟩
end Go.Proofs.YtnplommdgfgboaaGreatDoor.FrontW
set_option linter.unusedVariables false
set_option linter.unusedSimpArgs false
namespace Go.Proofs.YtnplommdgfgboaaGreatDoor.FrontW
open Go.RowKit Go.Lib Go.Proofs.YtnplommdgfgboaaGreatDoor.B Go.Proofs.YtnplommdgfgboaaGreatDoor.Rd Go.Proofs.YtnplommdgfgboaaGreatDoor.StoreW Go.Proofs.YtnplommdgfgboaaGreatDoor.Clones Go.Proofs.YtnplommdgfgboaaGreatDoor.FrontP
theorem any_u8 : ∀ (w : World) (ok ok' : Nat → Prop) (x : UInt8) (cs : List Value), byteK.M w ok x cs → byteK.M w ok' x cs := fun _ _ _ _ _ h => h
theorem two_row (W : World) (a b : Nat) (ha : a < 256) (hb : b < 256) : byteK.sl.M (W.alloc (.cells #[.int .u8 (a : Int), .int .u8 (b : Int)] 5)) (fun _ => True) [UInt8.ofNat a, UInt8.ofNat b] [.slice (some ⟨W.heap.size, 0, none⟩) 2 2] := by
  have ea : (UInt8.ofNat a).toNat = a := by simp; omega
  have eb : (UInt8.ofNat b).toNat = b := by simp; omega
  refine ⟨some ⟨W.heap.size, 0, none⟩, 2, rfl, Nat.le_refl _, ⟨by simp, by unfold maxLen; omega⟩, fun h => (by cases h), fun i x hx => ?_⟩
  match i with
  | 0 =>
    simp at hx
    subst hx
    refine ⟨_, [.int .u8 (a : Int)], rfl, trivial, by show _ = [Value.int .u8 ((UInt8.ofNat a).toNat : Int)]; rw [ea], fun j u hu => ?_⟩
    rw [add_plain, World.cell?, Kd.heap_new]
    match j with
    | 0 =>
      simp at hu
      subst hu
      rfl
    | j + 1 => simp at hu
  | 1 =>
    simp at hx
    subst hx
    refine ⟨_, [.int .u8 (b : Int)], rfl, trivial, by show _ = [Value.int .u8 ((UInt8.ofNat b).toNat : Int)]; rw [eb], fun j u hu => ?_⟩
    rw [add_plain, World.cell?, Kd.heap_new]
    match j with
    | 0 =>
      simp at hu
      subst hu
      rfl
    | j + 1 => simp at hu
  | i + 2 => simp at hx
theorem head_own (W : World) (base n : Nat) (hb : base ≤ W.heap.size) (hn : n < 65536) : byteK.own 5 (W.alloc (.cells #[.int .u8 ((n : Int) / 256), .int .u8 ((n : Int) % 256)] 5)) base TT (.slice (some ⟨W.heap.size, 0, none⟩) 2 2) (headN n) := by
  have ea : ((UInt8.ofNat (n / 256)).toNat : Int) = (n : Int) / 256 := by simp; omega
  have eb : ((UInt8.ofNat (n % 256)).toNat : Int) = (n : Int) % 256 := by simp
  refine Kd.own_block (cells := [.int .u8 ((n : Int) / 256), .int .u8 ((n : Int) % 256)]) (xs := headN n) hb (Kd.heap_new _ _) rfl (by simp [headN]) (fun i x h => ?_)
  unfold headN at h
  match i with
  | 0 =>
    simp at h
    subst h
    show _ = [Value.int .u8 ((UInt8.ofNat (n / 256)).toNat : Int)]
    rw [ea]
    rfl
  | 1 =>
    simp at h
    subst h
    show _ = [Value.int .u8 ((UInt8.ofNat (n % 256)).toNat : Int)]
    rw [eb]
    rfl
  | i + 2 => simp at h
set_option maxHeartbeats 6400000 in
set_option maxRecDepth 100000 in
theorem bytes_calls (l : List (List UInt8)) (hl : l.length ≤ 300) (hs : ∀ x ∈ l, x.length ≤ 250) (g : Nat) (w : World) (h : DictAt w (fun _ => True) g l) :
    Calls Tryz.prog 61 #[.pointer (some ⟨g, 0, none⟩)] w fun e w' => (∃ v, e = .returned v ∧ byteK.own 5 w' w.heap.size TT v (frontB l)) ∧ Below w.heap.size w w' := by
  obtain ⟨A, c, hg, hM⟩ := h
  have HRow := Lib.hid (fun hp => str_cells (Kd.M_bound hM) hp)
  have gp := fun p : QT.Bel w => p.cell (b := g) (o := 0) hg
  have HG := Lib.hid hg
  have hgl : g < w.heap.size := cell_lt hg
  have HS := Lib.hid hs
  have HUp : Hid (∀ k, k ≤ l.length → (headN l.length ++ upTo l k).length ≤ 100000) := Lib.hid (fun k hk => by
    have h1 := upTo_len hs k hk
    have h2 : k * (250 + 2) ≤ 300 * 252 := Nat.mul_le_mul (by omega) (Nat.le_refl _)
    simp only [List.length_append, headN, List.length_cons, List.length_nil]
    omega)
  have HEnd : Hid (headN l.length ++ upTo l l.length = frontB l) := Lib.hid rfl
  have HHead := Lib.hid (fun W hb => head_own W w.heap.size l.length hb (by omega))
  clear hM hg hs
  go_enter Tryz.func61, Tryz.ntmps61
  go_upto_region 3 with fail
  refine QT.region_bel 14 (by kernel_rfl) (by kernel_rfl) ?_
  simp only [List.take_succ_cons, List.take_zero, List.drop_succ_cons, List.drop_zero]
  iterate 14 (go_big_quiet_step (fail))
  refine wpQuiet_nil ?_
  intro w2 hw'
  obtain ⟨⟨_, hb⟩, rfl⟩ := hw'
  have HO0 := Lib.hid (HHead.out w2 hb.size)
  have HB0 := Lib.hid (bel_alloc hb (.cells #[.int .u8 ((l.length : Int) / 256), .int .u8 ((l.length : Int) % 256)] 5))
  have HN0 : Hid (headN l.length ++ upTo l 0 = headN l.length) := Lib.hid (by simp [upTo])
  have hg2 : (w2.alloc (.cells #[.int .u8 ((l.length : Int) / 256), .int .u8 ((l.length : Int) % 256)] 5)).cell? ⟨g, 0, none⟩ = some (.slice A l.length c) := (HB0.out.cell (p := ⟨g, 0, none⟩) hgl).trans HG.out
  clear gp hb HHead
  go_wp2
  go_loopw [3, 29] (fun v3 vk wr => ∃ k : Nat, vk = .int .i64 k ∧ k ≤ l.length ∧ Hid (byteK.own 5 wr w.heap.size TT v3 (headN l.length ++ upTo l k) ∧ Below w.heap.size w wr)) (fun _ vk _ => l.length - (intOf vk).toNat)
  case atStart => exact ⟨0, rfl, by omega, Lib.hid ⟨by rw [HN0.out]; exact HO0.out, HB0.out⟩⟩
  case round =>
    obtain ⟨k, rfl, hk, HI⟩ := hrel
    clear HO0 HB0 HN0 hg2
    obtain ⟨B1, hB1⟩ : ∃ B1, B1 = headN l.length ++ upTo l k := ⟨_, rfl⟩
    rw [← hB1] at HI
    have HBe := Lib.hid hB1
    clear hB1
    obtain ⟨A3, c3, rfl, _, _⟩ := Kd.own_slice HI.out.1
    by_cases hlt : k < l.length
    · have hd : decide ((k : Int) < (l.length : Int)) = true := decide_eq_true (by omega)
      have hd2 : decide (k < l.length) = true := decide_eq_true hlt
      have ik : (k : Int) < (l.length : Int) := by omega
      obtain ⟨b, off, rfl, _, hbs, hcells⟩ := HRow.out (by omega)
      have hcx := (HI.out.2.cell (p := ⟨b, off + k, none⟩) hbs).trans (hcells k hlt)
      have hgr := (HI.out.2.cell (p := ⟨g, 0, none⟩) hgl).trans HG.out
      have hgx := List.getD_eq_getElem?_getD (l := l) (i := k) (a := [])
      rw [List.getElem?_eq_getElem hlt] at hgx
      have HGd : Hid (l.getD k [] = l[k]) := Lib.hid hgx
      have hxs := HS.out _ (List.getElem_mem hlt)
      obtain ⟨x, hx⟩ : ∃ x, x = l[k] := ⟨_, rfl⟩
      rw [← hx] at hcx HGd hxs
      have zx := mkS_size x
      clear hgx
      by_cases h4 : k % 4 = 0
      · have hm4 : ((k : Int) % 4 != 0) = false := by simp; omega
        have HO : Hid (outN l k = 0) := Lib.hid (by unfold outN; rw [if_pos h4])
        obtain ⟨m, hmd⟩ : ∃ m, m = x.length - 0 := ⟨_, rfl⟩
        have HO1 := Lib.hid HI.out.1
        have HB1 := Lib.hid HI.out.2
        clear hcells hx h4
        have hm : x.length - 0 = m := hmd.symm
        have w1 : IntKind.i64.wrap ((x.length : Int) - 0) = (m : Int) := by rw [IntKind.wrap_i64]; omega
        have w2 : (x.length : Int) - 0 = (m : Int) := by omega
        have HTwo := Lib.hid (fun W => two_row W 0 m (by omega) (by omega))
        have hxe : (mkS x).extract 0 x.length = mkS x := by rw [mkS_extract]; congr 1; simp
        have hxe2 : (mkS x).extract 0 (mkS x).size = mkS x := by rw [zx]; exact hxe
        have HPc : Hid (B1 ++ [UInt8.ofNat 0, UInt8.ofNat m] ++ x = headN l.length ++ upTo l (k + 1)) := Lib.hid (by
          rw [HBe.out, upTo_succ, piece, HO.out, HGd.out, hm]
          simp)
        have HLen2 := Lib.hid (HUp.out (k + 1) hlt)
        rw [← HPc.out] at HLen2
        have hl1 : B1.length + 2 ≤ 100000 := by have := HLen2.out; simp only [List.length_append, List.length_cons, List.length_nil] at this ⊢; omega
        obtain ⟨B2, hB2⟩ : ∃ B2, B2 = B1 ++ [UInt8.ofNat 0, UInt8.ofNat m] := ⟨_, rfl⟩
        rw [← hB2] at HPc HLen2
        have hl2 : B2.length + x.length ≤ 100000 := by have := HLen2.out; rw [List.length_append] at this; exact this
        have HB2e := Lib.hid hB2
        have HXE := Lib.hid hxe
        have HXE2 := Lib.hid hxe2
        clear HLen2 hmd hm hB2 hxe hxe2
        go_wp2_with (at_builtin; first | (refine Kd.own_app byteK w.heap.size rfl (.tmp 47) (.tmp 55) 55 5 (.int .u8 0) 1 rfl Tryz.underlying55 PackW.info_u8 rfl (by decide) _ B1 [UInt8.ofNat 0, UInt8.ofNat m] (some ⟨wr.heap.size, 0, none⟩) 2 TT (by rfl) (by rfl) (Kd.own_alloc HO1.out _) (.inr ⟨HTwo.out _, any_u8⟩) (bel_alloc HB1.out _) (by have := HB1.out.size; simp; omega) (by simp; omega) ?_; intro v1 w8 ho1 hb1 hg1 hv1; clear hg1 hv1; rw [← HB2e.out] at ho1; have HO8 := Lib.hid ho1; have HB8 := Lib.hid hb1; clear ho1 hb1; obtain ⟨A8, c8, rfl, _, _⟩ := Kd.own_slice HO8.out) | (refine own_app_str rfl (.tmp 57) (.tmp 60) (by rfl) w.heap.size _ B2 x (by rfl) (by first | rfl | exact congrArg Value.string HXE.out | exact congrArg Value.string HXE2.out) HO8.out HB8.out HB8.out.size (by omega) ?_; intro v9 w9 ho2 hb2 hg2; clear hg2; rw [HPc.out] at ho2; have HO9 := Lib.hid ho2; have HB9 := Lib.hid hb2; clear ho2 hb2; obtain ⟨A9, c9, rfl, _, _⟩ := Kd.own_slice HO9.out))
        go_wp2
        go_roundw
        case rel => exact ⟨k + 1, by go_num, by omega, Lib.hid ⟨by have h := HO9.out; rwa [List.length_append] at h, HB9.out⟩⟩
        case measure => simp [intOf]; omega
      · have hm4 : ((k : Int) % 4 != 0) = true := by simp; omega
        obtain ⟨j, hj⟩ : ∃ j, j = k - 1 := ⟨_, rfl⟩
        have hwj : IntKind.i64.wrap ((k : Int) - 1) = (j : Int) := by rw [IntKind.wrap_i64]; omega
        have ij : (j : Int) < (l.length : Int) := by omega
        have hjl : j < l.length := by omega
        have hcy := (HI.out.2.cell (p := ⟨b, off + j, none⟩) hbs).trans (hcells j hjl)
        have hgy := List.getD_eq_getElem?_getD (l := l) (i := k - 1) (a := [])
        rw [← hj, List.getElem?_eq_getElem hjl] at hgy
        have hys := HS.out _ (List.getElem_mem hjl)
        obtain ⟨y, hy⟩ : ∃ y, y = l[j] := ⟨_, rfl⟩
        rw [← hy] at hcy hys
        have HC := Lib.hid (fun W => shared_calls y x (by omega) (by omega) W)
        have hsr := shared_right y x
        have HO : Hid (outN l k = shared y x) := Lib.hid (by
          unfold outN
          rw [if_neg h4, HGd.out, ← hj, hgy, hy]
          rfl)
        obtain ⟨n, hn⟩ : ∃ n, n = shared y x := ⟨_, rfl⟩
        rw [← hn] at HC HO hsr
        obtain ⟨m, hmd⟩ : ∃ m, m = x.length - n := ⟨_, rfl⟩
        have HI2 := Lib.hid (fun W (h : Below wr.heap.size wr W) => (⟨Kd.own_below HI.out.1 h, bel_step HI.out.2 h⟩ : byteK.own 5 W w.heap.size TT (.slice A3 B1.length c3) B1 ∧ Below w.heap.size w W))
        clear hcells hx h4 hy hgy hj hn
        go_wp2_with fail
        refine (HC.out _).mono ?_
        rintro e w7 ⟨rfl, hb⟩
        have HO1 := Lib.hid (HI2.out w7 hb).1
        have HB1 := Lib.hid (HI2.out w7 hb).2
        clear hb HC HI2
        have hm : x.length - n = m := hmd.symm
        have w1 : IntKind.i64.wrap ((x.length : Int) - n) = (m : Int) := by rw [IntKind.wrap_i64]; omega
        have w2 : (x.length : Int) - n = (m : Int) := by omega
        have HTwo := Lib.hid (fun W => two_row W n m (by omega) (by omega))
        have hxe : (mkS x).extract n x.length = mkS (x.drop n) := by rw [mkS_extract]; congr 1; rw [List.take_of_length_le (by rw [List.length_drop]; omega)]
        have hxe2 : (mkS x).extract n (mkS x).size = mkS (x.drop n) := by rw [zx]; exact hxe
        have HPc : Hid (B1 ++ [UInt8.ofNat n, UInt8.ofNat m] ++ (x.drop n) = headN l.length ++ upTo l (k + 1)) := Lib.hid (by
          rw [HBe.out, upTo_succ, piece, HO.out, HGd.out, hm]
          simp)
        have HLen2 := Lib.hid (HUp.out (k + 1) hlt)
        rw [← HPc.out] at HLen2
        have hl1 : B1.length + 2 ≤ 100000 := by have := HLen2.out; simp only [List.length_append, List.length_cons, List.length_nil] at this ⊢; omega
        obtain ⟨B2, hB2⟩ : ∃ B2, B2 = B1 ++ [UInt8.ofNat n, UInt8.ofNat m] := ⟨_, rfl⟩
        rw [← hB2] at HPc HLen2
        have hl2 : B2.length + (x.drop n).length ≤ 100000 := by have := HLen2.out; rw [List.length_append] at this; exact this
        have HB2e := Lib.hid hB2
        obtain ⟨X, hX⟩ : ∃ X, X = (x.drop n) := ⟨_, rfl⟩
        rw [← hX] at HPc hl2 hxe hxe2
        have HXE := Lib.hid hxe
        have HXE2 := Lib.hid hxe2
        clear HLen2 hmd hm hB2 hX hxe hxe2
        go_wp2_with (at_builtin; first | (refine Kd.own_app byteK w.heap.size rfl (.tmp 47) (.tmp 55) 55 5 (.int .u8 0) 1 rfl Tryz.underlying55 PackW.info_u8 rfl (by decide) _ B1 [UInt8.ofNat n, UInt8.ofNat m] (some ⟨w7.heap.size, 0, none⟩) 2 TT (by rfl) (by rfl) (Kd.own_alloc HO1.out _) (.inr ⟨HTwo.out _, any_u8⟩) (bel_alloc HB1.out _) (by have := HB1.out.size; simp; omega) (by simp; omega) ?_; intro v1 w8 ho1 hb1 hg1 hv1; clear hg1 hv1; rw [← HB2e.out] at ho1; have HO8 := Lib.hid ho1; have HB8 := Lib.hid hb1; clear ho1 hb1; obtain ⟨A8, c8, rfl, _, _⟩ := Kd.own_slice HO8.out) | (refine own_app_str rfl (.tmp 57) (.tmp 60) (by rfl) w.heap.size _ B2 X (by rfl) (by first | rfl | exact congrArg Value.string HXE.out | exact congrArg Value.string HXE2.out) HO8.out HB8.out HB8.out.size (by omega) ?_; intro v9 w9 ho2 hb2 hg2; clear hg2; rw [HPc.out] at ho2; have HO9 := Lib.hid ho2; have HB9 := Lib.hid hb2; clear ho2 hb2; obtain ⟨A9, c9, rfl, _, _⟩ := Kd.own_slice HO9.out))
        go_wp2
        go_roundw
        case rel => exact ⟨k + 1, by go_num, by omega, Lib.hid ⟨by have h := HO9.out; rwa [List.length_append] at h, HB9.out⟩⟩
        case measure => simp [intOf]; omega
    · have hd : decide ((k : Int) < (l.length : Int)) = false := decide_eq_false (by omega)
      have hd2 : decide (k < l.length) = false := decide_eq_false hlt
      obtain rfl : k = l.length := by omega
      have HO1 := Lib.hid HI.out.1
      have HB1 := Lib.hid HI.out.2
      have HBf : Hid (frontB l = B1) := Lib.hid HBe.out.symm
      clear HI
      go_wp2
      go_ret
      exact ⟨⟨_, rfl, by rw [HBf.out]; exact HO1.out⟩, HB1.out⟩
end Go.Proofs.YtnplommdgfgboaaGreatDoor.FrontW
set_option linter.unusedVariables false
set_option linter.unusedSectionVars false
set_option linter.unusedSimpArgs false
namespace Go.Proofs.YtnplommdgfgboaaGreatDoor.IdsW
open Go.RowKit Go.Lib Go.Proofs.YtnplommdgfgboaaGreatDoor.B Go.Proofs.YtnplommdgfgboaaGreatDoor.Rd Go.Proofs.YtnplommdgfgboaaGreatDoor.OrdG Go.Proofs.YtnplommdgfgboaaGreatDoor.StoreW Go.Proofs.YtnplommdgfgboaaGreatDoor.IdsCmp Go.Proofs.YtnplommdgfgboaaGreatDoor.TermW
/-- A pattern: a number, or any. -/
structure Pat where
  a : Int
  b : Int
  c : Int
deriving DecidableEq
def Pat.at (p : Pat) : Nat → Int
  | 0 => p.a
  | 1 => p.b
  | _ => p.c
def anyP : Pat := ⟨0, 0, 0⟩
def fitsB (n : Int) (x : Nat) : Bool := decide (n = 0) || decide (n = (x : Int))
def matchP (p : Pat) (x : Ids) : Bool := fitsB p.a x.a && fitsB p.b x.b && fitsB p.c x.c
theorem filter_any (l : List Ids) : l.filter (matchP anyP) = l := List.filter_eq_self.2 fun x _ => rfl
theorem match_no {p : Pat} {x : Ids} {k : Nat} (hk : k < 3) (h0 : p.at k ≠ 0) (h1 : p.at k ≠ (at3 x k : Nat)) : matchP p x = false := by
  unfold matchP fitsB
  match k, hk with
  | 0, _ => simp only [Pat.at, at3] at h0 h1; simp [h0, h1]
  | 1, _ => simp only [Pat.at, at3] at h0 h1; simp [h0, h1]
  | 2, _ => simp only [Pat.at, at3] at h0 h1; simp [h0, h1]
theorem match_yes {p : Pat} {x : Ids} (h : ∀ k, k < 3 → p.at k = 0 ∨ p.at k = (at3 x k : Nat)) : matchP p x = true := by
  have a0 := h 0 (by decide)
  have a1 := h 1 (by decide)
  have a2 := h 2 (by decide)
  simp only [Pat.at, at3] at a0 a1 a2
  unfold matchP fitsB
  simp [a0, a1, a2]
/-- A pattern's numbers, where they lie. -/
def P3 (w : World) (g o : Nat) (p : Pat) : Prop := ∀ k, k < 3 → w.cell? ⟨g, o + k, none⟩ = some (.int .i64 (p.at k))
def patL (p : Pat) : List Value := [.int .i64 p.a, .int .i64 p.b, .int .i64 p.c]
theorem P3.of {w : World} {g o : Nat} {x : Pat} (h : ∀ j u, (patL x)[j]? = some u → w.cell? ⟨g, o + j, none⟩ = some u) : P3 w g o x := fun k hk => by
  match k, hk with
  | 0, _ => exact h 0 _ rfl
  | 1, _ => exact h 1 _ rfl
  | 2, _ => exact h 2 _ rfl
theorem P3.lt {w : World} {g o : Nat} {x : Pat} (h : P3 w g o x) : g < w.heap.size := World.block_lt_of_cell? w ⟨g, o + 0, none⟩ (h 0 (by decide))
theorem P3.moved {w w' : World} {g o : Nat} {x : Pat} (h : P3 w g o x) (hm : w'.heap[g]? = w.heap[g]?) : P3 w' g o x := fun k hk => (World.cell?_of_block (a := ⟨g, o + k, none⟩) hm).trans (h k hk)
theorem P3.below {w w' : World} {g o : Nat} {x : Pat} (h : P3 w g o x) (hb : Below w.heap.size w w') : P3 w' g o x := h.moved (hb.block g h.lt)
theorem P3.new (w : World) (x : Pat) : P3 (w.alloc (.cells (patL x).toArray 40)) w.heap.size 0 x := P3.of fun j u hu => by
  unfold World.cell?
  dsimp only
  rw [Kd.heap_new, Nat.zero_add]
  simpa using hu
def put3 (w : World) (g o : Nat) (t : Ids) : World := ((w.setCell ⟨g, o, none⟩ (.int .i64 (t.a : Nat))).setCell ⟨g, o + 1, none⟩ (.int .i64 (t.b : Nat))).setCell ⟨g, o + 2, none⟩ (.int .i64 (t.c : Nat))
theorem put3_other (w : World) (g o : Nat) (t : Ids) (j : Nat) (h : j < o ∨ o + 3 ≤ j) : (put3 w g o t).cell? ⟨g, j, none⟩ = w.cell? ⟨g, j, none⟩ := by
  unfold put3
  iterate 3 rw [World.cell?_setCell_other _ _ _ _ (by simp; try omega)]
theorem put3_frozen (w : World) (g o : Nat) (t : Ids) (a : Addr) : (put3 w g o t).frozen? a = w.frozen? a := by
  unfold put3
  iterate 3 rw [World.frozen?_setCell]
theorem put3_grown (w : World) (g o : Nat) (t : Ids) : w.grownBy (put3 w g o t) (some g) := by
  unfold put3
  iterate 3 refine TermW.set_grown ?_ _ _
  exact World.grownBy.refl _ _
theorem put3_same {w : World} {g o : Nat} {t0 : Ids} (h : I3 w g o t0) (t : Ids) : I3 (put3 w g o t) g o t := by
  have s0 : (w.cell? ⟨g, o, none⟩).isSome = true := by have := h 0 (by decide); rw [Nat.add_zero] at this; rw [this]; rfl
  have s1 : (w.cell? ⟨g, o + 1, none⟩).isSome = true := by rw [h 1 (by decide)]; rfl
  have s2 : (w.cell? ⟨g, o + 2, none⟩).isSome = true := by rw [h 2 (by decide)]; rfl
  unfold put3
  intro k hk
  match k, hk with
  | 0, _ =>
    rw [Nat.add_zero]
    iterate 2 rw [World.cell?_setCell_other _ _ _ _ (by simp)]
    exact TermW.same_of s0
  | 1, _ =>
    iterate 1 rw [World.cell?_setCell_other _ _ _ _ (by simp)]
    exact TermW.same_of (TermW.some_set s1)
  | 2, _ => exact TermW.same_of (TermW.some_set (TermW.some_set s2))
/-- A row at the head of block g, of a call's own. -/
structure IR (W : World) (g : Nat) (l : List Ids) (w : World) : Prop where
  grown : W.grownBy w (some g)
  cells : ∀ i (h : i < l.length), I3 w g (i * 3) l[i]
  free : ∀ j, j < l.length * 3 → w.frozen? ⟨g, j, none⟩ = false
theorem IR.drewN {W w : World} {g : Nat} {l : List Ids} (h : IR W g l w) (n : Nat) : IR W g l (w.drewN n) :=
  ⟨⟨h.grown.os, h.grown.tape, h.grown.output, h.grown.size, h.grown.block⟩, fun i hi => (h.cells i hi).moved rfl, h.free⟩
theorem IR.below {W w w' : World} {g : Nat} {l : List Ids} (h : IR W g l w) (hg : g < w.heap.size) (hb : Below w.heap.size w w') : IR W g l w' :=
  ⟨h.grown.trans ⟨hb.os, hb.tape, hb.output, hb.size, fun k hk _ => hb.block k hk⟩, fun i hi => (h.cells i hi).below hb, fun j hj => (hb.frozen (p := ⟨g, j, none⟩) hg).trans (h.free j hj)⟩
theorem IR.at {W w : World} {g : Nat} {l : List Ids} (h : IR W g l w) {q : Nat} {x : Ids} (hx : l[q]? = some x) : I3 w g (q * 3) x := by
  obtain ⟨hi, rfl⟩ := List.getElem?_eq_some_iff.1 hx
  exact h.cells q hi
theorem IR.set {W w : World} {g : Nat} {l : List Ids} (h : IR W g l w) (i : Nat) (hi : i < l.length) (x : Ids) : IR W g (l.set i x) (put3 w g (i * 3) x) := by
  refine ⟨h.grown.trans (put3_grown _ _ _ _), fun k hk => ?_, fun q hq => ?_⟩
  · have hk' : k < l.length := by rw [List.length_set] at hk; exact hk
    by_cases e : k = i
    · subst e
      rw [List.getElem_set_self]
      exact put3_same (h.cells k hk') _
    · rw [List.getElem_set_ne (fun h => e h.symm)]
      have hc := h.cells k hk'
      exact fun d hd => (put3_other _ _ _ _ _ (by omega)).trans (hc d hd)
  · rw [put3_frozen]
    rw [List.length_set] at hq
    exact h.free q hq
/-- A row of a call's own, as it is worked in place. -/
theorem IR.of_own {w : World} {base : Nat} {ok : Nat → Prop} {v : Value} {l : List Ids} (h : idsK.own 40 w base ok v l) (hp : 0 < l.length) :
    ∃ g cap, v = .slice (some ⟨g, 0, none⟩) l.length cap ∧ base ≤ g ∧ g < w.heap.size ∧ l.length ≤ cap ∧ cap ≤ maxLen ∧ IR w g l w := by
  obtain ⟨_, cells, ho, hr⟩ := h
  have ho' := ho
  rcases ho'.2 with ⟨_, h0⟩ | ⟨g, cap, cur, rfl, hg, hh, hnc, hcm, hcs, htake⟩
  · omega
  · have hlt : g < w.heap.size := (Array.getElem?_eq_some_iff.1 hh).1
    refine ⟨g, cap, rfl, hg, hlt, hnc, hcm, World.grownBy.refl _ _, fun i hi => ?_, fun j hj => ?_⟩
    · obtain ⟨hc, _⟩ := hr i l[i] (List.getElem?_eq_getElem hi)
      refine I3.of fun j u hu => ?_
      rw [← hc] at hu
      have := ho.cells rfl _ _ (Kd.take_drop_get hu)
      rw [add_plain] at this
      exact this
    · unfold World.frozen?
      dsimp only
      rw [hh]
      simp
/-- .. and back. -/
theorem IR.sl {W w : World} {g cap : Nat} {l : List Ids} (h : IR W g l w) (hf : ∀ t ∈ l, FitsI t) (hl : l.length ≤ 140737488355328) (hc : l.length ≤ cap) (hcm : cap ≤ maxLen) (ok : Nat → Prop) (hok : ok g) :
    idsK.sl.M w ok l [.slice (some ⟨g, 0, none⟩) l.length cap] := by
  refine ⟨some ⟨g, 0, none⟩, cap, rfl, hc, ⟨hl, hcm⟩, fun h => (by cases h), fun i x hx => ?_⟩
  obtain ⟨hi, rfl⟩ := List.getElem?_eq_some_iff.1 hx
  refine ⟨_, idsL l[i], rfl, hok, ⟨rfl, hf _ (List.getElem_mem hi)⟩, fun j u hu => ?_⟩
  rw [add_plain]
  have hc3 := h.cells i hi
  have hj : j < 3 := (List.getElem?_eq_some_iff.1 hu).1
  match j, hj with
  | 0, _ => cases hu; exact hc3 0 (by decide)
  | 1, _ => cases hu; exact hc3 1 (by decide)
  | 2, _ => cases hu; exact hc3 2 (by decide)
section
variable {α : Type} [DecidableEq α] {f : α → Bool}
/-- What lies in the row as the loop has come to j, k of them kept. -/
structure FI (f : α → Bool) (R l' : List α) (L k j : Nat) : Prop where
  len : l'.length = L
  head : l'.take k = (R.take j).filter f
  tail : ∀ q, j ≤ q → l'[q]? = R[q]?
theorem FI.start {R : List α} {L k : Nat} (hL : R.length = L) (hk : k < L) (hy : ∀ i (h : i < R.length), i < k → f R[i] = true) (hn : f (R[k]'(by omega)) = false) : FI f R R L k (k + 1) := by
  refine ⟨hL, ?_, fun q _ => rfl⟩
  rw [List.take_succ_eq_append_getElem (by omega), List.filter_append, List.filter_cons, hn]
  simp only [List.filter_nil]
  rw [if_neg (by simp), List.append_nil]
  exact (List.filter_eq_self.2 fun x hx => by
    obtain ⟨i, hi, rfl⟩ := List.mem_take_iff_getElem.1 hx
    exact hy i (by omega) (by omega)).symm
theorem FI.drop {R l' : List α} {L k j : Nat} (h : FI f R l' L k j) (hL : R.length = L) (hj : j < L) (hn : f (R[j]'(by omega)) = false) : FI f R l' L k (j + 1) :=
  ⟨h.len, by
    rw [List.take_succ_eq_append_getElem (by omega), List.filter_append, List.filter_cons, hn, h.head]
    simp, fun q hq => h.tail q (by omega)⟩
theorem FI.put {R l' : List α} {L k j : Nat} (h : FI f R l' L k j) (hL : R.length = L) (hkj : k < j) (hj : j < L) (hy : f (R[j]'(by omega)) = true) : FI f R (l'.set k (R[j]'(by omega))) L (k + 1) (j + 1) :=
  ⟨by rw [List.length_set]; exact h.len, by
    rw [List.take_succ_eq_append_getElem (l := R) (by omega), List.filter_append, List.filter_cons, hy, TermW.take_set_lt _ _ _ (by rw [h.len]; omega), h.head]
    simp, fun q hq => by rw [List.getElem?_set_ne (by omega)]; exact h.tail q (by omega)⟩
end
theorem run_cutk (w : World) (g L cap k : Nat) (hk : k < L) (hc : L ≤ cap) : (Instr.slice 48 (.slice (some ⟨g, 0, none⟩) L cap) (some (.int .i64 (k : Int))) none none).run Tryz.prog w = .ok (.slice (some ⟨g, k * 3, none⟩) (L - k) (cap - k)) w := by
  have hu : (Tryz.prog).underlying 48 = some (.slice ((Tryz.prog).elem 48)) := by
    have := Tryz.underlying48
    simp [Program.elem, this]
  have hs : ∀ w, (sizeOf 40).run Tryz.prog w = .ok 3 w := Tryz.sizeOf40
  have he : (Tryz.prog).elem 48 = 40 := by simp [Program.elem, Tryz.underlying48]
  rw [run_slice_l w _ _ L cap hu .i64 (k : Int) (by omega) (by omega), he, hs]
  have : ¬ cap = k := by omega
  simp [sliced, Result.andThen, this, Addr.add_lit]
theorem run_takek (w : World) (g L cap k : Nat) (hk : k ≤ L) (hk0 : 0 < L) (hc : L ≤ cap) : (Instr.slice 48 (.slice (some ⟨g, 0, none⟩) L cap) none (some (.int .i64 (k : Int))) none).run Tryz.prog w = .ok (.slice (some ⟨g, 0, none⟩) k cap) w := by
  have hu : (Tryz.prog).underlying 48 = some (.slice ((Tryz.prog).elem 48)) := by
    have := Tryz.underlying48
    simp [Program.elem, this]
  have hs : ∀ w, (sizeOf 40).run Tryz.prog w = .ok 3 w := Tryz.sizeOf40
  have he : (Tryz.prog).elem 48 = 40 := by simp [Program.elem, Tryz.underlying48]
  rw [run_slice_h w _ _ L cap hu .i64 (k : Int) (by omega) (by omega), he, hs]
  have : ¬ cap = 0 := by omega
  simp [sliced, Result.andThen, this, Addr.add_lit]
theorem run_idx0 (a b c : Int) (w : World) : (Instr.index 40 (.agg #[.int .i64 a, .int .i64 b, .int .i64 c]) (.int .i64 0)).run Tryz.prog w = .ok (.int .i64 a) w := by
  have h := Tryz.underlying40
  have hs := Tryz.sizeOf3
  simp [Instr.index, run_underlying h, asIntOf, go_sem]
theorem run_idx1 (a b c : Int) (w : World) : (Instr.index 40 (.agg #[.int .i64 a, .int .i64 b, .int .i64 c]) (.int .i64 1)).run Tryz.prog w = .ok (.int .i64 b) w := by
  have h := Tryz.underlying40
  have hs := Tryz.sizeOf3
  simp [Instr.index, run_underlying h, asIntOf, go_sem]
theorem run_idx2 (a b c : Int) (w : World) : (Instr.index 40 (.agg #[.int .i64 a, .int .i64 b, .int .i64 c]) (.int .i64 2)).run Tryz.prog w = .ok (.int .i64 c) w := by
  have h := Tryz.underlying40
  have hs := Tryz.sizeOf3
  simp [Instr.index, run_underlying h, asIntOf, go_sem]
def zeroV : Value := .agg #[.int .i64 0, .int .i64 0, .int .i64 0]
theorem zeroCells_len (n : Nat) : (Builtin.zeroCells zeroV.cells n).toList.length = n * 3 := by
  simp [Builtin.zeroCells, zeroV, Value.cells]
theorem zeroCells_one (n : Nat) : ∀ v ∈ (Builtin.zeroCells zeroV.cells n).toList, v.oneCell' = true := by
  intro v hv
  have key : ∀ k : Nat, k < 3 → ((zeroV.cells)[k]!).oneCell' = true := by decide
  simp [Builtin.zeroCells] at hv
  obtain ⟨i, hi, rfl⟩ := hv
  exact key _ (Nat.mod_lt _ (by decide))
theorem run_clear (w : World) (ty : TypeId) (b o n c : Nat) (hn : 0 < n) (hc : ∀ j, j < n * 3 → (w.cell? ⟨b, o + j, none⟩).isSome = true) (hf : ∀ j, j < n * 3 → w.frozen? ⟨b, o + j, none⟩ = false) :
    (Builtin.clear_ #[48] ty #[.slice (some ⟨b, o, none⟩) n c]).run Tryz.prog w = .ok (.tuple #[]) (w.setCells b o (Builtin.zeroCells zeroV.cells n).toList) := by
  have hv : ∀ w, (zeroValue 40).run Tryz.prog w = .ok zeroV w := Tryz.zeroValue40
  have hst := run_storeCells_cells (P := Tryz.prog) b o (Builtin.zeroCells zeroV.cells n).toList 0 w (by rw [zeroCells_len]; simpa using hc) (by rw [zeroCells_len]; simpa using hf) (zeroCells_one n)
  simp only [Nat.add_zero] at hst
  obtain ⟨m, rfl⟩ : ∃ m, n = m + 1 := ⟨n - 1, by omega⟩
  simp only [Builtin.clear_]
  simp [run_underlying Tryz.underlying48, hv, hst]
end Go.Proofs.YtnplommdgfgboaaGreatDoor.IdsW
set_option linter.unusedVariables false
set_option linter.unusedSimpArgs false
namespace Go.Proofs.YtnplommdgfgboaaGreatDoor.IdsAll
open Go.RowKit Go.Lib Go.Proofs.YtnplommdgfgboaaGreatDoor.B Go.Proofs.YtnplommdgfgboaaGreatDoor.Rd Go.Proofs.YtnplommdgfgboaaGreatDoor.OrdG Go.Proofs.YtnplommdgfgboaaGreatDoor.StoreW Go.Proofs.YtnplommdgfgboaaGreatDoor.IdsCmp Go.Proofs.YtnplommdgfgboaaGreatDoor.IdsW Go.Proofs.YtnplommdgfgboaaGreatDoor.Clones
set_option maxHeartbeats 3200000 in
set_option maxRecDepth 100000 in
theorem matches_calls (p : Pat) (x : Ids) (w : World) : Calls Tryz.prog 54 #[.agg (patL p).toArray, .agg (idsL x).toArray] w fun e w' => e = .returned (.bool (matchP p x)) ∧ Below w.heap.size w w' := by
  have hb : Below w.heap.size w ((w.alloc (.cells (patL p).toArray 40)).alloc (.cells (idsL x).toArray 40)) := bel_alloc (bel_alloc (Below.refl _ _) _) _
  have hp : P3 ((w.alloc (.cells (patL p).toArray 40)).alloc (.cells (idsL x).toArray 40)) w.heap.size 0 p := (P3.new w p).below (bel_alloc (Below.refl _ _) _)
  have hx : I3 ((w.alloc (.cells (patL p).toArray 40)).alloc (.cells (idsL x).toArray 40)) (w.heap.size + 1) 0 x := by
    have := I3.new (w.alloc (.cells (patL p).toArray 40)) x
    rwa [show (w.alloc (.cells (patL p).toArray 40)).heap.size = w.heap.size + 1 by simp] at this
  obtain ⟨w0, hw0⟩ : ∃ w0, w0 = ((w.alloc (.cells (patL p).toArray 40)).alloc (.cells (idsL x).toArray 40)) := ⟨_, rfl⟩
  rw [← hw0] at hb hp hx
  have HB := Lib.hid hb
  have HW : Hid ((w.alloc (.cells (patL p).toArray 40)).alloc (.cells (idsL x).toArray 40) = w0) := Lib.hid hw0.symm
  have p0 := hp 0 (by decide)
  have p1 := hp 1 (by decide)
  have p2 := hp 2 (by decide)
  have x0 := hx 0 (by decide)
  have x1 := hx 1 (by decide)
  have x2 := hx 2 (by decide)
  simp only [Nat.zero_add, Pat.at, at3] at p0 p1 p2 x0 x1 x2
  have HN := Lib.hid (fun k hk => match_no (p := p) (x := x) (k := k) hk)
  have HY := Lib.hid (match_yes (p := p) (x := x))
  obtain ⟨v, hv⟩ : ∃ v, v = matchP p x := ⟨_, rfl⟩
  rw [← hv] at HN HY
  rw [← hv]
  clear hb hp hx hw0 hv
  obtain ⟨pa, pb, pc⟩ := p
  obtain ⟨xa, xb, xc⟩ := x
  unfold patL idsL at *
  dsimp only at *
  have hi0 := fun w => run_idx0 pa pb pc w
  have hi1 := fun w => run_idx1 pa pb pc w
  have hi2 := fun w => run_idx2 pa pb pc w
  go_enter Tryz.func54, Tryz.ntmps54
  go_upto_region 1 with fail
  rw [HW.out]
  clear HW
  go_wp2
  go_loopw [8] (fun vk wr => ∃ k : Nat, vk = .int .i64 k ∧ k ≤ 3 ∧ Hid (∀ j, j < k → (⟨pa, pb, pc⟩ : Pat).at j = 0 ∨ (⟨pa, pb, pc⟩ : Pat).at j = (at3 ⟨xa, xb, xc⟩ j : Nat)) ∧ w0 = wr) (fun vk _ => 3 - (intOf vk).toNat)
  case atStart => exact ⟨0, rfl, by omega, Lib.hid (fun j h => absurd h (by omega)), rfl⟩
  case round =>
    obtain ⟨k, rfl, hk, HJ, rfl⟩ := hrel
    rcases (by omega : k = 0 ∨ k = 1 ∨ k = 2 ∨ k = 3) with rfl | rfl | rfl | rfl
    · by_cases h0 : pa = 0
      · have hn0 : (pa != 0) = false := by simp [h0]
        have HJ2 : Hid (∀ j, j < 1 → (⟨pa, pb, pc⟩ : Pat).at j = 0 ∨ (⟨pa, pb, pc⟩ : Pat).at j = (at3 ⟨xa, xb, xc⟩ j : Nat)) := Lib.hid (fun j hj => by
          by_cases e : j = 0
          · subst e; exact .inl h0
          · exact HJ.out j (by omega))
        clear h0 HJ
        go_wp2
        go_roundw
        case rel => exact ⟨1, by go_num, by omega, HJ2, by first | rfl | trivial⟩
        case measure => simp [intOf]
      · have hn0 : (pa != 0) = true := by simp [h0]
        by_cases h1 : pa = (xa : Int)
        · have hn1 : (pa != (xa : Int)) = false := by simp [h1]
          have HJ2 : Hid (∀ j, j < 1 → (⟨pa, pb, pc⟩ : Pat).at j = 0 ∨ (⟨pa, pb, pc⟩ : Pat).at j = (at3 ⟨xa, xb, xc⟩ j : Nat)) := Lib.hid (fun j hj => by
            by_cases e : j = 0
            · subst e; exact .inr h1
            · exact HJ.out j (by omega))
          clear h0 h1 HJ
          go_wp2
          go_roundw
          case rel => exact ⟨1, by go_num, by omega, HJ2, by first | rfl | trivial⟩
          case measure => simp [intOf]
        · have hn1 : (pa != (xa : Int)) = true := by simp [h1]
          have HV := Lib.hid (HN.out 0 (by decide) h0 h1)
          clear h0 h1 HJ
          go_wp2
          go_ret
          exact ⟨by rw [HV.out]; rfl, HB.out⟩
    · by_cases h0 : pb = 0
      · have hn0 : (pb != 0) = false := by simp [h0]
        have HJ2 : Hid (∀ j, j < 2 → (⟨pa, pb, pc⟩ : Pat).at j = 0 ∨ (⟨pa, pb, pc⟩ : Pat).at j = (at3 ⟨xa, xb, xc⟩ j : Nat)) := Lib.hid (fun j hj => by
          by_cases e : j = 1
          · subst e; exact .inl h0
          · exact HJ.out j (by omega))
        clear h0 HJ
        go_wp2
        go_roundw
        case rel => exact ⟨2, by go_num, by omega, HJ2, by first | rfl | trivial⟩
        case measure => simp [intOf]
      · have hn0 : (pb != 0) = true := by simp [h0]
        by_cases h1 : pb = (xb : Int)
        · have hn1 : (pb != (xb : Int)) = false := by simp [h1]
          have HJ2 : Hid (∀ j, j < 2 → (⟨pa, pb, pc⟩ : Pat).at j = 0 ∨ (⟨pa, pb, pc⟩ : Pat).at j = (at3 ⟨xa, xb, xc⟩ j : Nat)) := Lib.hid (fun j hj => by
            by_cases e : j = 1
            · subst e; exact .inr h1
            · exact HJ.out j (by omega))
          clear h0 h1 HJ
          go_wp2
          go_roundw
          case rel => exact ⟨2, by go_num, by omega, HJ2, by first | rfl | trivial⟩
          case measure => simp [intOf]
        · have hn1 : (pb != (xb : Int)) = true := by simp [h1]
          have HV := Lib.hid (HN.out 1 (by decide) h0 h1)
          clear h0 h1 HJ
          go_wp2
          go_ret
          exact ⟨by rw [HV.out]; rfl, HB.out⟩
    · by_cases h0 : pc = 0
      · have hn0 : (pc != 0) = false := by simp [h0]
        have HJ2 : Hid (∀ j, j < 3 → (⟨pa, pb, pc⟩ : Pat).at j = 0 ∨ (⟨pa, pb, pc⟩ : Pat).at j = (at3 ⟨xa, xb, xc⟩ j : Nat)) := Lib.hid (fun j hj => by
          by_cases e : j = 2
          · subst e; exact .inl h0
          · exact HJ.out j (by omega))
        clear h0 HJ
        go_wp2
        go_roundw
        case rel => exact ⟨3, by go_num, by omega, HJ2, by first | rfl | trivial⟩
        case measure => simp [intOf]
      · have hn0 : (pc != 0) = true := by simp [h0]
        by_cases h1 : pc = (xc : Int)
        · have hn1 : (pc != (xc : Int)) = false := by simp [h1]
          have HJ2 : Hid (∀ j, j < 3 → (⟨pa, pb, pc⟩ : Pat).at j = 0 ∨ (⟨pa, pb, pc⟩ : Pat).at j = (at3 ⟨xa, xb, xc⟩ j : Nat)) := Lib.hid (fun j hj => by
            by_cases e : j = 2
            · subst e; exact .inr h1
            · exact HJ.out j (by omega))
          clear h0 h1 HJ
          go_wp2
          go_roundw
          case rel => exact ⟨3, by go_num, by omega, HJ2, by first | rfl | trivial⟩
          case measure => simp [intOf]
        · have hn1 : (pc != (xc : Int)) = true := by simp [h1]
          have HV := Lib.hid (HN.out 2 (by decide) h0 h1)
          clear h0 h1 HJ
          go_wp2
          go_ret
          exact ⟨by rw [HV.out]; rfl, HB.out⟩
    · have HV := Lib.hid (HY.out HJ.out)
      go_wp2
      go_ret
      exact ⟨by rw [HV.out]; rfl, HB.out⟩
/-- The closure that All hands to DeleteFunc; h: where the pattern lies. -/
def clV (h : Nat) : Value := .func (.func 53) #[] #[.pointer (some ⟨h, 0, none⟩)]
set_option maxHeartbeats 3200000 in
set_option maxRecDepth 100000 in
theorem clo_calls (p : Pat) (x : Ids) (h : Nat) (w : World) (hp : P3 w h 0 p) : Calls Tryz.prog 53 #[.agg (idsL x).toArray, .pointer (some ⟨h, 0, none⟩)] w fun e w' => e = .returned (.bool (!matchP p x)) ∧ Below w.heap.size w w' := by
  have hb : Below w.heap.size w (w.alloc (.cells (idsL x).toArray 40)) := bel_alloc (Below.refl _ _) _
  have hp2 := hp.below hb
  have hx := I3.new w x
  obtain ⟨w0, hw0⟩ : ∃ w0, w0 = w.alloc (.cells (idsL x).toArray 40) := ⟨_, rfl⟩
  rw [← hw0] at hb hp2 hx
  have HB := Lib.hid hb
  have HW : Hid (w.alloc (.cells (idsL x).toArray 40) = w0) := Lib.hid hw0.symm
  have HM := Lib.hid (matches_calls p x w0)
  have p0 := hp2 0 (by decide)
  have p1 := hp2 1 (by decide)
  have p2 := hp2 2 (by decide)
  have x0 := hx 0 (by decide)
  have x1 := hx 1 (by decide)
  have x2 := hx 2 (by decide)
  simp only [Nat.zero_add, Pat.at, at3] at p0 p1 p2 x0 x1 x2
  generalize matchP p x = v at *
  clear hb hp hp2 hx hw0
  obtain ⟨pa, pb, pc⟩ := p
  obtain ⟨xa, xb, xc⟩ := x
  unfold patL idsL at *
  dsimp only at *
  go_enter Tryz.func53, Tryz.ntmps53
  go_upto_region 1 with fail
  rw [HW.out]
  clear HW
  go_wp2_with fail
  refine HM.out.mono ?_
  rintro e w2 ⟨rfl, hb2⟩
  have HB2 := Lib.hid (bel_step HB.out hb2)
  clear hb2 HM
  go_wp2
  go_ret
  exact ⟨rfl, HB2.out⟩
/-- What IndexFunc answers: where the first stands that a pattern does not keep; -1. -/
def firstNot (f : Ids → Bool) (R : List Ids) : Int := if (R.takeWhile f).length < R.length then ((R.takeWhile f).length : Nat) else -1
theorem takeWhile_at {f : Ids → Bool} : ∀ (R : List Ids) (k : Nat) (h : k < R.length), (∀ i (hi : i < R.length), i < k → f R[i] = true) → f R[k] = false → (R.takeWhile f).length = k
  | [], k, h, _, _ => by simp at h
  | x :: R, 0, h, _, hn => by
    rw [List.takeWhile_cons]
    simp at hn
    simp [hn]
  | x :: R, k + 1, h, hy, hn => by
    have h0 := hy 0 (by simp) (by omega)
    simp at h0
    rw [List.takeWhile_cons, if_pos h0, List.length_cons, takeWhile_at R k (by simpa using h) (fun i hi hlt => by have := hy (i + 1) (by simp; omega) (by omega); rw [List.getElem_cons_succ] at this; exact this) (by rw [List.getElem_cons_succ] at hn; exact hn)]
theorem first_at {f : Ids → Bool} {R : List Ids} {k : Nat} (h : k < R.length) (hy : ∀ i (hi : i < R.length), i < k → f R[i] = true) (hn : f R[k] = false) : firstNot f R = k := by
  unfold firstNot
  rw [takeWhile_at R k h hy hn, if_pos h]
theorem first_none {f : Ids → Bool} {R : List Ids} (hy : ∀ i (hi : i < R.length), f R[i] = true) : firstNot f R = -1 := by
  have : R.takeWhile f = R := by
    have : ∀ R : List Ids, (∀ x ∈ R, f x = true) → R.takeWhile f = R := by
      intro R
      induction R with
      | nil => intro _; rfl
      | cons x R ih =>
        intro h
        rw [List.takeWhile_cons, if_pos (h x (by simp)), ih (fun z hz => h z (by simp [hz]))]
    exact this R fun x hx => by
      obtain ⟨i, hi, rfl⟩ := List.getElem_of_mem hx
      exact hy i hi
  unfold firstNot
  rw [this, if_neg (by omega)]
set_option maxHeartbeats 3200000 in
set_option maxRecDepth 100000 in
theorem index_calls (p : Pat) (R : List Ids) (L cap : Nat) (hL : R.length = L) (hLs : L ≤ 1000000) (g h : Nat) (W w : World) (hg : g < w.heap.size) (hS : IR W g R w) (hp : P3 w h 0 p) :
    Calls Tryz.prog 97 #[.slice (some ⟨g, 0, none⟩) L cap, clV h] w fun e w' => e = .returned (.int .i64 (firstNot (matchP p) R)) ∧ Below w.heap.size w w' := by
  have HL : Hid (R.length = L) := Lib.hid hL
  have HS := Lib.hid hS
  have HP := Lib.hid hp
  have HG := Lib.hid hg
  clear hL hS hp hg
  unfold clV
  go_enter Tryz.func97, Tryz.ntmps97
  go_wp2
  go_loopw [8] (fun vk wr => ∃ k : Nat, vk = .int .i64 k ∧ k ≤ L ∧ Hid ((∀ i (hi : i < R.length), i < k → matchP p R[i] = true) ∧ Below w.heap.size w wr)) (fun vk _ => L - (intOf vk).toNat)
  case atStart => exact ⟨0, rfl, by omega, Lib.hid ⟨fun i hi h => absurd h (by omega), Below.refl _ _⟩⟩
  case round =>
    obtain ⟨k, rfl, hkL, HI⟩ := hrel
    by_cases hlt : k < L
    · have hd : decide (k < L) = true := decide_eq_true hlt
      have ik : (k : Int) < (L : Int) := by omega
      have hcx := HS.out.cells k (by rw [HL.out]; exact hlt)
      have hcx2 := hcx.below HI.out.2
      obtain ⟨x, hx⟩ : ∃ x, x = R[k]'(by rw [HL.out]; exact hlt) := ⟨_, rfl⟩
      rw [← hx] at hcx2
      have HC := Lib.hid (clo_calls p x h wr (HP.out.below HI.out.2))
      obtain ⟨v, hv⟩ : ∃ v, v = matchP p x := ⟨_, rfl⟩
      rw [← hv] at HC
      have x0 := hcx2 0 (by decide)
      have x1 := hcx2 1 (by decide)
      have x2 := hcx2 2 (by decide)
      simp only [Nat.add_zero, at3] at x0 x1 x2
      clear hcx
      have HB := Lib.hid HI.out.2
      have HStep : Hid (v = true → ∀ i (hi : i < R.length), i < k + 1 → matchP p R[i] = true) := Lib.hid (fun hvt i hi hlt => by
        by_cases e : i = k
        · subst e; rw [← hx, ← hv]; exact hvt
        · exact HI.out.1 i hi (by omega))
      have HEnd : Hid (v = false → firstNot (matchP p) R = (k : Nat)) := Lib.hid (fun hvf => first_at (by rw [HL.out]; exact hlt) HI.out.1 (by rw [← hx, ← hv]; exact hvf))
      clear hx hv hcx2 HI
      obtain ⟨xa, xb, xc⟩ := x
      unfold idsL at HC
      dsimp only at *
      cases v
      · have HV := Lib.hid (HEnd.out rfl)
        clear HEnd HStep
        go_wp2_with fail
        refine HC.out.mono ?_
        rintro e w2 ⟨rfl, hb2⟩
        have HB2 := Lib.hid (bel_step HB.out hb2)
        clear hb2 HC
        go_wp2
        go_ret
        exact ⟨by rw [HV.out]; rfl, HB2.out⟩
      · have HV := Lib.hid (HStep.out rfl)
        clear HEnd HStep
        go_wp2_with fail
        refine HC.out.mono ?_
        rintro e w2 ⟨rfl, hb2⟩
        have HB2 := Lib.hid (bel_step HB.out hb2)
        clear hb2 HC
        go_wp2
        go_roundw
        case rel => exact ⟨k + 1, by go_num, by omega, Lib.hid ⟨HV.out, HB2.out⟩⟩
        case measure => simp [intOf]; omega
    · have hd : decide (k < L) = false := decide_eq_false hlt
      have HV : Hid (firstNot (matchP p) R = -1) := Lib.hid (first_none fun i hi => HI.out.1 i hi (by have := HL.out; omega))
      have HB := Lib.hid HI.out.2
      clear HI
      go_wp2
      go_ret
      exact ⟨by rw [HV.out]; rfl, HB.out⟩
theorem first_cases (f : Ids → Bool) (R : List Ids) : (firstNot f R = -1 ∧ R.filter f = R) ∨ ∃ k : Nat, ∃ h : k < R.length, firstNot f R = k ∧ (∀ i (hi : i < R.length), i < k → f R[i] = true) ∧ f R[k] = false := by
  by_cases h : (R.takeWhile f).length < R.length
  · right
    refine ⟨(R.takeWhile f).length, h, by unfold firstNot; rw [if_pos h], fun i hi hlt => ?_, ?_⟩
    · have hm : (R.takeWhile f)[i] ∈ R.takeWhile f := List.getElem_mem hlt
      have e : (R.takeWhile f)[i] = R[i] := by
        have := List.takeWhile_prefix (p := f) (l := R)
        obtain ⟨t, ht⟩ := this
        have h1 : R[i]? = (R.takeWhile f)[i]? := by
          conv => lhs; rw [← ht]
          rw [List.getElem?_append_left hlt]
        rw [List.getElem?_eq_getElem hi, List.getElem?_eq_getElem hlt] at h1
        exact (Option.some.inj h1).symm
      rw [← e]
      exact List.all_eq_true.1 List.all_takeWhile _ hm
    · have : ∀ (R : List Ids) (h : (R.takeWhile f).length < R.length), f (R[(R.takeWhile f).length]'h) = false := by
        intro R
        induction R with
        | nil => intro h; simp at h
        | cons x R ih =>
          intro h
          by_cases hx : f x = true
          · have e : (x :: R).takeWhile f = x :: R.takeWhile f := by rw [List.takeWhile_cons, if_pos hx]
            have h' : (R.takeWhile f).length < R.length := by rw [e] at h; simpa using h
            have := ih h'
            simp only [e, List.length_cons, List.getElem_cons_succ]
            exact this
          · have e : (x :: R).takeWhile f = [] := by rw [List.takeWhile_cons, if_neg hx]
            simp only [e, List.length_nil, List.getElem_cons_zero]
            simpa using hx
      exact this R h
  · left
    have e : R.takeWhile f = R := (List.takeWhile_prefix f).eq_of_length (by have := (List.takeWhile_prefix f (l := R)).length_le; omega)
    refine ⟨by unfold firstNot; rw [if_neg h], List.filter_eq_self.2 fun x hx => ?_⟩
    rw [← e] at hx
    exact List.all_eq_true.1 List.all_takeWhile _ hx
set_option maxHeartbeats 25600000 in
set_option maxRecDepth 100000 in
theorem delete_calls (p : Pat) (R : List Ids) (L cap : Nat) (hL : R.length = L) (hc : L ≤ cap) (hLs : L ≤ 1000000) (hcM : cap ≤ maxLen) (g h : Nat) (W w : World) (hg : g < w.heap.size) (hne : g ≠ h) (hS : IR W g R w) (hp : P3 w h 0 p) :
    Calls Tryz.prog 51 #[.slice (some ⟨g, 0, none⟩) L cap, clV h] w fun e w' => e = .returned (.slice (some ⟨g, 0, none⟩) (R.filter (matchP p)).length cap) ∧ IR W g (R.filter (matchP p)) w' ∧ w.heap.size ≤ w'.heap.size := by
  have HI := Lib.hid (index_calls p R L cap hL hLs g h W w hg hS hp)
  have HL : Hid (R.length = L) := Lib.hid hL
  have HS := Lib.hid hS
  have HP := Lib.hid hp
  have HG := Lib.hid hg
  have HNe := Lib.hid hne
  have HF := Lib.hid (first_cases (matchP p) R)
  clear hL hS hp hg hne
  unfold clV at *
  go_enter Tryz.func51, Tryz.ntmps51
  rcases HF.out with ⟨hf, hall⟩ | ⟨k, hkR, hf, hyes, hno⟩
  · rw [hf] at HI
    have HA := Lib.hid hall
    clear hf hall HF
    rw [HA.out]
    go_wp2_with fail
    refine HI.out.mono ?_
    rintro e w2 ⟨rfl, hb2⟩
    have HS2 := Lib.hid (HS.out.below HG.out hb2)
    have HZ := Lib.hid hb2.size
    clear hb2 HI
    go_wp2
    go_ret
    exact ⟨by rw [HL.out]; rfl, HS2.out, HZ.out⟩
  rw [hf] at HI
  have hkL : k < L := by rw [← HL.out]; exact hkR
  have hk1 : ((k : Int) == -1) = false := by rw [beq_eq_false_iff_ne]; omega
  have HI0 : Hid (FI (matchP p) R R L k (k + 1)) := Lib.hid (FI.start HL.out hkL (fun i hi hlt => hyes i hi hlt) hno)
  clear hf hyes hno HF hkR
  go_wp2_with fail
  refine HI.out.mono ?_
  rintro e w2 ⟨rfl, hb2⟩
  have HS2 := Lib.hid (HS.out.below HG.out hb2)
  have HP2 := Lib.hid (HP.out.below hb2)
  have HG2 : Hid (g < w2.heap.size ∧ w.heap.size ≤ w2.heap.size) := Lib.hid ⟨Nat.lt_of_lt_of_le HG.out hb2.size, hb2.size⟩
  clear hb2 HI HS HP HG
  go_wp2
  go_loopw [5, 6] (fun vk vj wr => ∃ (k j : Nat) (l' : List Ids), vk = .int .i64 k ∧ vj = .int .i64 j ∧ k < j ∧ j ≤ L ∧ Hid (FI (matchP p) R l' L k j ∧ IR W g l' wr ∧ P3 wr h 0 p ∧ g < wr.heap.size ∧ w.heap.size ≤ wr.heap.size)) (fun _ vj _ => L - (intOf vj).toNat)
  case atStart => exact ⟨k, k + 1, R, rfl, by go_num, by omega, by omega, Lib.hid ⟨HI0.out, HS2.out, HP2.out, HG2.out.1, HG2.out.2⟩⟩
  case round =>
    obtain ⟨k1, j, l', rfl, rfl, hkj, hjL, HR⟩ := hrel
    clear HI0 HS2 HP2 HG2 hk1
    by_cases hlt : j < L
    · have hd : decide (j < L) = true := decide_eq_true hlt
      have ij : (j : Int) < (L : Int) := by omega
      have ik : (k1 : Int) < (L : Int) := by omega
      obtain ⟨x, hx⟩ : ∃ x, x = R[j]'(by rw [HL.out]; exact hlt) := ⟨_, rfl⟩
      have hcx : I3 wr g (j * 3) x := HR.out.2.1.at (by rw [HR.out.1.tail j (Nat.le_refl _), hx]; exact List.getElem?_eq_getElem _)
      have hb : Below wr.heap.size wr (wr.alloc (.cells (idsL x).toArray 40)) := bel_alloc (Below.refl _ _) _
      have hnx := I3.new wr x
      have hpx := HR.out.2.2.1.below hb
      have hsx := HR.out.2.1.below HR.out.2.2.2.1 hb
      have x0 := hcx 0 (by decide)
      have x1 := hcx 1 (by decide)
      have x2 := hcx 2 (by decide)
      simp only [Nat.add_zero, at3] at x0 x1 x2
      obtain ⟨w0, hw0⟩ : ∃ w0, w0 = wr.alloc (.cells (idsL x).toArray 40) := ⟨_, rfl⟩
      rw [← hw0] at hb hnx hpx hsx
      have HWX : Hid (wr.alloc (.cells (idsL x).toArray 40) = w0) := Lib.hid hw0.symm
      have HC := Lib.hid (clo_calls p x h w0 hpx)
      obtain ⟨v, hv⟩ : ∃ v, v = matchP p x := ⟨_, rfl⟩
      rw [← hv] at HC
      have HDrop : Hid (v = false → FI (matchP p) R l' L k1 (j + 1)) := Lib.hid (fun e => HR.out.1.drop HL.out hlt (by rw [← hx, ← hv]; exact e))
      have HPut : Hid (v = true → FI (matchP p) R (l'.set k1 x) L (k1 + 1) (j + 1)) := Lib.hid (fun e => by
        have := HR.out.1.put HL.out hkj hlt (by rw [← hx, ← hv]; exact e)
        rw [← hx] at this
        exact this)
      have hsz0 : wr.heap.size < w0.heap.size := by rw [hw0]; simp
      have HState : Hid (IR W g l' w0 ∧ P3 w0 h 0 p ∧ g < w0.heap.size ∧ w.heap.size ≤ w0.heap.size ∧ I3 w0 wr.heap.size 0 x ∧ wr.heap.size ≠ g) := Lib.hid ⟨hsx, hpx, by have := HR.out.2.2.2.1; omega, by have := HR.out.2.2.2.2; omega, hnx, by have := HR.out.2.2.2.1; omega⟩
      have HLen : Hid (l'.length = L) := Lib.hid HR.out.1.len
      have y0 := hnx 0 (by decide)
      have y1 := hnx 1 (by decide)
      have y2 := hnx 2 (by decide)
      simp only [Nat.zero_add, at3] at y0 y1 y2
      have HXc := Lib.hid hnx
      clear hx hv hcx hb hnx hpx hsx hw0 HR
      obtain ⟨xa, xb, xc⟩ := x
      unfold idsL at HC HWX
      dsimp only at *
      cases v
      · have HV := Lib.hid (HDrop.out rfl)
        clear HDrop HPut
        go_upto_region 8 with fail
        rw [HWX.out]
        clear x0 x1 x2 HWX
        go_wp2_with fail
        refine HC.out.mono ?_
        rintro e w3 ⟨rfl, hb3⟩
        have HN : Hid (IR W g l' w3 ∧ P3 w3 h 0 p ∧ g < w3.heap.size ∧ w.heap.size ≤ w3.heap.size) := Lib.hid ⟨HState.out.1.below HState.out.2.2.1 hb3, HState.out.2.1.below hb3, Nat.lt_of_lt_of_le HState.out.2.2.1 hb3.size, Nat.le_trans HState.out.2.2.2.1 hb3.size⟩
        clear hb3 HC HState y0 y1 y2 HXc
        go_wp2
        go_roundw
        case rel => exact ⟨k1, j + 1, l', rfl, by go_num, by omega, by omega, Lib.hid ⟨HV.out, HN.out.1, HN.out.2.1, HN.out.2.2.1, HN.out.2.2.2⟩⟩
        case measure => simp [intOf]; omega
      · have HV := Lib.hid (HPut.out rfl)
        clear HDrop HPut
        go_upto_region 8 with fail
        rw [HWX.out]
        clear x0 x1 x2 HWX
        go_wp2_with fail
        refine HC.out.mono ?_
        rintro e w3 ⟨rfl, hb3⟩
        have hk1l : k1 < l'.length := by rw [HLen.out]; omega
        have hs3 := HState.out.1.below HState.out.2.2.1 hb3
        have HN : Hid (P3 w3 h 0 p ∧ g < w3.heap.size ∧ w.heap.size ≤ w3.heap.size) := Lib.hid ⟨HState.out.2.1.below hb3, Nat.lt_of_lt_of_le HState.out.2.2.1 hb3.size, Nat.le_trans HState.out.2.2.2.1 hb3.size⟩
        have hx3 := HXc.out.below hb3
        have a0 := hx3 0 (by decide)
        have a1 := hx3 1 (by decide)
        have a2 := hx3 2 (by decide)
        simp only [Nat.zero_add, at3] at a0 a1 a2
        have f0 := hs3.free (k1 * 3 + 0) (by omega)
        have f1 := hs3.free (k1 * 3 + 1) (by omega)
        have f2 := hs3.free (k1 * 3 + 2) (by omega)
        have hz := hs3.cells k1 hk1l
        obtain ⟨z, hze⟩ : ∃ z, z = l'[k1] := ⟨_, rfl⟩
        rw [← hze] at hz
        have z0 := hz 0 (by decide)
        have z1 := hz 1 (by decide)
        have z2 := hz 2 (by decide)
        simp only [Nat.add_zero, at3] at z0 z1 z2 f0
        have HSW := Lib.hid (hs3.set k1 hk1l ⟨xa, xb, xc⟩)
        unfold put3 at HSW
        dsimp only at HSW
        have HPW : Hid (∀ q v, P3 (w3.setCell ⟨g, q, none⟩ v) h 0 p) := Lib.hid (fun q v => HN.out.1.moved (Below.heap_setCell _ _ _ _ (fun e => HNe.out e.symm)))
        clear hb3 HC HState y0 y1 y2 HXc hx3 hs3 hz hze hk1l
        go_wp2
        go_roundw
        case rel => exact ⟨k1 + 1, j + 1, l'.set k1 ⟨xa, xb, xc⟩, by go_num, by go_num, by omega, by omega, Lib.hid ⟨HV.out, HSW.out, by refine P3.moved HN.out.1 ?_; iterate 3 (first | rw [Below.heap_setCell _ _ _ _ (fun e => HNe.out e.symm)]), by simpa using HN.out.2.1, by simpa using HN.out.2.2⟩⟩
        case measure => simp [intOf]; omega
    · have hd : decide (j < L) = false := decide_eq_false hlt
      obtain rfl : j = L := by omega
      have HEnd : Hid (R.filter (matchP p) = l'.take k1) := Lib.hid (by
        have := HR.out.1.head
        rw [List.take_of_length_le (l := R) (by rw [HL.out]; exact Nat.le_refl _)] at this
        exact this.symm)
      obtain ⟨n2, hn2⟩ : ∃ n2, n2 = j - k1 := ⟨_, rfl⟩
      obtain ⟨c3, hc3⟩ : ∃ c3, c3 = cap - k1 := ⟨_, rfl⟩
      have HSl2 : ∀ w, (Instr.slice 48 (.slice (some ⟨g, 0, none⟩) j cap) (some (.int .i64 (k1 : Int))) none none).run Tryz.prog w = .ok (.slice (some ⟨g, k1 * 3, none⟩) n2 c3) w := fun w => by rw [hn2, hc3]; exact run_cutk w g j cap k1 hkj hc
      have HSl3 : ∀ w, (Instr.slice 48 (.slice (some ⟨g, 0, none⟩) j cap) none (some (.int .i64 (k1 : Int))) none).run Tryz.prog w = .ok (.slice (some ⟨g, 0, none⟩) k1 cap) w := fun w => run_takek w g j cap k1 (by omega) (by omega) hc
      have HLl : l'.length = j := HR.out.1.len
      obtain ⟨Z, hZ⟩ : ∃ Z, Z = (Builtin.zeroCells zeroV.cells n2).toList := ⟨_, rfl⟩
      have HClr : ∀ ty, (Builtin.clear_ #[48] ty #[.slice (some ⟨g, k1 * 3, none⟩) n2 c3]).run Tryz.prog wr = .ok (.tuple #[]) (wr.setCells g (k1 * 3) Z) := fun ty => by
        rw [hZ]
        refine run_clear wr ty g (k1 * 3) n2 c3 (by omega) (fun i hi => ?_) (fun i hi => ?_)
        · obtain ⟨q, d, hd, he⟩ : ∃ q d, d < 3 ∧ k1 * 3 + i = q * 3 + d := ⟨(k1 * 3 + i) / 3, (k1 * 3 + i) % 3, Nat.mod_lt _ (by omega), by omega⟩
          rw [he]
          have hq : q < l'.length := by omega
          rw [HR.out.2.1.cells q hq d hd]
          rfl
        · exact HR.out.2.1.free _ (by omega)
      have HV : Hid ((R.filter (matchP p)).length = k1 ∧ IR W g (R.filter (matchP p)) (wr.setCells g (k1 * 3) Z) ∧ w.heap.size ≤ (wr.setCells g (k1 * 3) Z).heap.size) := Lib.hid (by
        have hlen : (R.filter (matchP p)).length = k1 := by rw [HEnd.out, List.length_take]; omega
        have hgr := TermW.setCells_grown g Z (k1 * 3) wr
        refine ⟨hlen, ⟨HR.out.2.1.grown.trans hgr, fun i hi => ?_, fun i hi => by rw [TermW.setCells_frozen]; exact HR.out.2.1.free i (by omega)⟩, Nat.le_trans HR.out.2.2.2.2 hgr.size⟩
        have hi2 : i < l'.length := by omega
        have hcell := HR.out.2.1.cells i hi2
        have he : (R.filter (matchP p))[i] = l'[i] := by
          have : ∀ (A B : List Ids) (e : A = B) (h : i < A.length) (h' : i < B.length), A[i] = B[i] := by rintro A B rfl h h'; rfl
          rw [this _ _ HEnd.out hi (by rw [← HEnd.out]; exact hi), List.getElem_take]
        rw [he]
        exact fun d hd => (TermW.setCells_far g Z (k1 * 3) wr _ (by omega)).trans (hcell d hd))
      clear hn2 hc3 hZ HEnd HR HLl
      go_wp2
      go_ret
      exact ⟨by rw [HV.out.1]; rfl, HV.out.2⟩
end Go.Proofs.YtnplommdgfgboaaGreatDoor.IdsAll
set_option linter.unusedVariables false
set_option linter.unusedSimpArgs false
namespace Go.Proofs.YtnplommdgfgboaaGreatDoor.IdsAll
open Go.RowKit Go.Lib Go.Proofs.YtnplommdgfgboaaGreatDoor.B Go.Proofs.YtnplommdgfgboaaGreatDoor.Rd Go.Proofs.YtnplommdgfgboaaGreatDoor.OrdG Go.Proofs.YtnplommdgfgboaaGreatDoor.StoreW Go.Proofs.YtnplommdgfgboaaGreatDoor.IdsCmp Go.Proofs.YtnplommdgfgboaaGreatDoor.IdsW Go.Proofs.YtnplommdgfgboaaGreatDoor.Clones
set_option maxRecDepth 100000 in
theorem index_nil (A : Option Addr) (c h : Nat) (w : World) :
    Calls Tryz.prog 97 #[.slice A 0 c, clV h] w fun e w' => e = .returned (.int .i64 (-1)) ∧ w = w' := by
  unfold clV
  go_enter Tryz.func97, Tryz.ntmps97
  go_wp2
  go_loopw [8] (fun vk wr => vk = .int .i64 0 ∧ w = wr) (fun vk _ => 0)
  case atStart => exact ⟨rfl, rfl⟩
  case round =>
    obtain ⟨rfl, rfl⟩ := hrel
    go_wp2
    go_ret
    exact ⟨rfl, rfl⟩
set_option maxRecDepth 100000 in
theorem delete_nil (A : Option Addr) (c h : Nat) (w : World) :
    Calls Tryz.prog 51 #[.slice A 0 c, clV h] w fun e w' => e = .returned (.slice A 0 c) ∧ w = w' := by
  have HI := Lib.hid (index_nil A c h w)
  unfold clV at *
  go_enter Tryz.func51, Tryz.ntmps51
  go_wp2_with fail
  refine HI.out.mono ?_
  rintro e w2 ⟨rfl, rfl⟩
  go_wp2
  go_ret
  exact ⟨rfl, rfl⟩
set_option maxHeartbeats 3200000 in
set_option maxRecDepth 100000 in
theorem all_calls (p : Pat) (I : List Ids) (hI : I.length ≤ 100) (g : Nat) (w : World) (ok : Nat → Prop) (h : RingAt w ok g I) :
    Calls Tryz.prog 26 #[.pointer (some ⟨g, 0, none⟩), .agg (patL p).toArray] w fun e w' => (∃ A c, e = .returned (.slice A (I.filter (matchP p)).length c) ∧ idsK.sl.M w' (fun k => w.heap.size ≤ k ∧ k < w'.heap.size) (I.filter (matchP p)) [.slice A (I.filter (matchP p)).length c]) ∧ Below w.heap.size w w' := by
  obtain ⟨_, _, A, c, hg, hM⟩ := h
  have hb : Below w.heap.size w (w.alloc (.cells (patL p).toArray 40)) := bel_alloc (Below.refl _ _) _
  have hp := P3.new w p
  obtain ⟨w0, hw0⟩ : ∃ w0, w0 = w.alloc (.cells (patL p).toArray 40) := ⟨_, rfl⟩
  rw [← hw0] at hb hp
  have hz0 : w0.heap.size = w.heap.size + 1 := by rw [hw0]; simp
  have HWX : Hid (w.alloc (.cells (patL p).toArray 40) = w0) := Lib.hid hw0.symm
  have hM0 := Kd.M_bound (Kd.M_below (Kd.M_bound hM) hb)
  have HFit : Hid (∀ x ∈ I, FitsI x) := Lib.hid (by
    obtain ⟨A', c', he, _, _, _, hrow⟩ := hM
    intro x hx
    obtain ⟨i, hi, rfl⟩ := List.getElem_of_mem hx
    obtain ⟨b, off, _, _, _, hcells⟩ := Kd.row_addr hrow (by omega)
    obtain ⟨cs, ⟨_, hf⟩, _⟩ := hcells i hi
    exact hf)
  have HC := Lib.hid (clone_ids_calls I A c w0 (idsK.sl.mono (fun _ _ _ => trivial) hM0) (by omega))
  have hg0 : w0.cell? ⟨g, 3, none⟩ = some (.slice A I.length c) := (hb.cell (p := ⟨g, 3, none⟩) (cell_lt hg)).trans hg
  have HB := Lib.hid hb
  have HP := Lib.hid hp
  have HZ := Lib.hid hz0
  have hmf : ∀ (fn : Fn) (first cap : Array Value) (w : World), (Instr.makeFunc fn first cap).run Tryz.prog w = .ok (.func fn first cap) w := fun _ _ _ _ => rfl
  clear hM hb hp hw0 hz0 hM0 hg
  unfold patL at HWX
  unfold patL
  go_enter Tryz.func26, Tryz.ntmps26
  go_upto_region 1 with fail
  rw [HWX.out]
  clear HWX
  go_wp2_with fail
  refine HC.out.mono ?_
  rintro e w1 ⟨⟨v, rfl, ho⟩, hb⟩
  have HB1 := Lib.hid (bel_step HB.out hb)
  have HP1 := Lib.hid (HP.out.below hb)
  have HZ1 : Hid (w.heap.size < w1.heap.size) := Lib.hid (by have := hb.size; have := HZ.out; omega)
  clear hb HC hg0
  by_cases h0 : I.length = 0
  · obtain rfl : I = [] := List.eq_nil_of_length_eq_zero h0
    obtain ⟨A1, c1, rfl, h1, h2⟩ := Kd.own_slice ho
    have HD := Lib.hid (delete_nil A1 c1 w.heap.size w1)
    have HO : Hid (idsK.sl.M w1 (fun k => w.heap.size ≤ k ∧ k < w1.heap.size) [] [.slice A1 0 c1]) := Lib.hid ⟨A1, c1, rfl, Nat.zero_le _, ⟨Nat.zero_le _, by
      obtain ⟨A', c', he, _, ⟨_, h5⟩, _⟩ := (Kd.own_sl (ok := TT) (ok' := TT) ho (fun _ _ => trivial) (fun _ _ => trivial))
      simp at he
      omega⟩, h2, Kd.row_nil _ _ _ _⟩
    unfold clV at HD
    simp only [List.length_nil, List.filter_nil] at *
    clear ho h1 h2 h0
    go_wp2_with fail
    refine HD.out.mono ?_
    rintro e w2 ⟨rfl, rfl⟩
    go_wp2
    go_ret
    exact ⟨⟨A1, c1, rfl, HO.out⟩, HB1.out⟩
  · obtain ⟨gr, cap, rfl, hbase, hglt, hcap, hcm, hir⟩ := IR.of_own ho (by omega)
    have hne : gr ≠ w.heap.size := by have := HZ.out; omega
    have HD := Lib.hid (delete_calls p I I.length cap rfl hcap (by omega) hcm gr w.heap.size w1 w1 hglt hne hir HP1.out)
    have HG : Hid (w.heap.size ≤ gr ∧ gr < w1.heap.size ∧ I.length ≤ cap ∧ cap ≤ maxLen) := Lib.hid ⟨by have := HZ.out; omega, hglt, hcap, hcm⟩
    have HLe : Hid ((I.filter (matchP p)).length ≤ I.length) := Lib.hid (List.length_filter_le _ _)
    have HFf : Hid (∀ x ∈ I.filter (matchP p), FitsI x) := Lib.hid (fun x hx => HFit.out x (List.mem_filter.1 hx).1)
    unfold clV at HD
    obtain ⟨F, hF⟩ : ∃ F, F = I.filter (matchP p) := ⟨_, rfl⟩
    rw [← hF] at HD HLe HFf
    have HFe := Lib.hid hF
    clear hF
    clear ho hbase hglt hcap hcm hir hne h0
    go_wp2_with fail
    refine HD.out.mono ?_
    rintro e w2 ⟨rfl, hir, hsz⟩
    have HB2 : Hid (Below w.heap.size w w2) := Lib.hid (HB1.out.grown hir.grown (by have := HZ1.out; omega) (fun j hj => by have := HG.out; cases hj; omega))
    have HO : Hid (idsK.sl.M w2 (fun k => w.heap.size ≤ k ∧ k < w2.heap.size) F [.slice (some ⟨gr, 0, none⟩) F.length cap]) := Lib.hid (hir.sl HFf.out (by have := HLe.out; omega) (by have := HG.out; have := HLe.out; omega) HG.out.2.2.2 _ ⟨HG.out.1, by have := HG.out; omega⟩)
    clear hir hsz HD
    go_wp2
    go_ret
    rw [← HFe.out]
    exact ⟨⟨_, _, rfl, HO.out⟩, HB2.out⟩
end Go.Proofs.YtnplommdgfgboaaGreatDoor.IdsAll
