/-
  Texts of the claim, one behind the other: Put, RefSort, Same, FrontP, PackP, CrcPure, BoxPure, StoreP, FrontW, FrontB, IdsW, IdsAll, RingAll, CrcWalk, CrcLaws, BoxWalk, BoxPack, Encode, SCommon, Ref8, PutE.
-/
import Derived.Test.YtnplommdgfgboaaGreatDoorK7
import Derived.Lib.ItoaNum
import Derived.Test.YtnplommdgfgboaaGreatDoorProg
import Derived.WalkKit
import Derived.KernelRfl
import Derived.Lib.Hide
import Derived.Deep.LoopGhost
import Derived.Lib.SlBytesConst
import Derived.Deep.QuietTactic
import Derived.BigQuiet
import Derived.WalkSpells
import Derived.Deep.DeepCutAuto
import Derived.Deep.RegionWith
import Derived.ChangeKeysEq
set_option linter.unusedVariables false
set_option linter.unusedSimpArgs false
namespace Go.Proofs.YtnplommdgfgboaaGreatDoor.SortW
open Go.RowKit Go.Lib Go.Proofs.YtnplommdgfgboaaGreatDoor.B Go.Proofs.YtnplommdgfgboaaGreatDoor.Rd Go.Proofs.YtnplommdgfgboaaGreatDoor.Utf Go.Proofs.YtnplommdgfgboaaGreatDoor.TermPure Go.Proofs.YtnplommdgfgboaaGreatDoor.LinesPure Go.Proofs.YtnplommdgfgboaaGreatDoor.Tx Go.Proofs.YtnplommdgfgboaaGreatDoor.Env Go.Proofs.YtnplommdgfgboaaGreatDoor.Tri Go.Proofs.YtnplommdgfgboaaGreatDoor.SortP Go.Proofs.YtnplommdgfgboaaGreatDoor.Print Go.Proofs.YtnplommdgfgboaaGreatDoor.Cmp Go.Proofs.YtnplommdgfgboaaGreatDoor.Long
theorem cellsT : (Tryz.prog).cellsOf 36 = triK.sz := by kernel_rfl
theorem nine {w : World} {g : Nat} {t : Triple} (h : C9 w g 0 t) : w.cell? ⟨g, 0, none⟩ = some (.int .i64 t.s.kind) ∧ w.cell? ⟨g, 1, none⟩ = some (.string (mkS t.s.text)) ∧ w.cell? ⟨g, 2, none⟩ = some (.string (mkS t.s.extra)) ∧ w.cell? ⟨g, 3, none⟩ = some (.int .i64 t.p.kind) ∧ w.cell? ⟨g, 4, none⟩ = some (.string (mkS t.p.text)) ∧ w.cell? ⟨g, 5, none⟩ = some (.string (mkS t.p.extra)) ∧ w.cell? ⟨g, 6, none⟩ = some (.int .i64 t.o.kind) ∧ w.cell? ⟨g, 7, none⟩ = some (.string (mkS t.o.text)) ∧ w.cell? ⟨g, 8, none⟩ = some (.string (mkS t.o.extra)) := by
  obtain ⟨c0, c1, c2, c3, c4, c5, c6, c7, c8⟩ := h
  simp only [Nat.zero_add] at *
  exact ⟨c0, c1, c2, c3, c4, c5, c6, c7, c8⟩
theorem one_grown {W w1 : World} {g : Nat} {r : Option Nat} {t : Triple} (ht : FitsW3 t) (h : C9 W g 0 t) (hg : W.grownBy w1 r) (hne : some g ≠ r) : triK.sl.M w1 (fun _ => True) [t] [.slice (some ⟨g, 0, none⟩) 1 1] := by
  refine ⟨some ⟨g, 0, none⟩, 1, rfl, Nat.le_refl _, ⟨by simp, by unfold maxLen; omega⟩, fun h => (by cases h), fun i x hx => ?_⟩
  cases i with
  | zero =>
    simp at hx
    subst hx
    refine ⟨_, triL t, rfl, trivial, ⟨rfl, ht⟩, fun j u hu => ?_⟩
    rw [Nat.zero_mul, Nat.zero_add, add_plain]
    obtain ⟨c0, c1, c2, c3, c4, c5, c6, c7, c8⟩ := h.moved (hg.block g h.lt hne)
    have hj : j < 9 := (List.getElem?_eq_some_iff.1 hu).1
    match j, hj with
    | 0, _ => cases hu; exact c0
    | 1, _ => cases hu; exact c1
    | 2, _ => cases hu; exact c2
    | 3, _ => cases hu; exact c3
    | 4, _ => cases hu; exact c4
    | 5, _ => cases hu; exact c5
    | 6, _ => cases hu; exact c6
    | 7, _ => cases hu; exact c7
    | 8, _ => cases hu; exact c8
  | succ i => simp at hx
theorem own0_1 (w : World) : triK.own 36 (w.alloc (.cells #[] 36)) w.heap.size TT (.slice (some ⟨w.heap.size, 0, none⟩) 0 0) [] :=
  Kd.own_block (cells := []) (xs := []) (Nat.le_refl _) (Kd.heap_new _ _) rfl (by simp) (fun i x h => by simp at h)
theorem own0_2 (w : World) (o : Obj) : triK.own 36 ((w.alloc o).alloc (.cells #[] 36)) w.heap.size TT (.slice (some ⟨w.heap.size + 1, 0, none⟩) 0 0) [] := by
  have h := own0_1 (w.alloc o)
  rw [show (w.alloc o).heap.size = w.heap.size + 1 by simp] at h
  exact Kd.own_lower (by omega) h
theorem C9_new1 (w : World) (o : Obj) (t : Triple) : C9 ((w.alloc o).alloc (.cells (triL t).toArray 36)).drew (w.heap.size + 1) 0 t := by
  have h := C9.new (w.alloc o) t
  rw [show (w.alloc o).heap.size = w.heap.size + 1 by simp] at h
  exact h.moved rfl
theorem C9_new2 (w : World) (t : Triple) (o : Obj) : C9 ((w.alloc (.cells (triL t).toArray 36)).alloc o).drew w.heap.size 0 t :=
  ((C9.new w t).alloc o).moved rfl
theorem putT_same : ∀ (l : List Triple) (t : Triple) (i : Nat) (hi : i < l.length), (∀ j (h : j < l.length), j < i → cmpT l[j] t < 0) → cmpT l[i] t = 0 → putT l t = l
  | [], _, _, h, _, _ => by simp at h
  | x :: l, t, 0, _, _, h0 => by
    simp at h0
    rw [putT, if_neg (by omega), if_pos h0]
  | x :: l, t, i + 1, hi, hlt, h0 => by
    have h1 := hlt 0 (by simp) (by omega)
    simp at h1
    rw [putT, if_pos h1, putT_same l t i (by simpa using hi) (fun j h hj => by have := hlt (j + 1) (by simpa using h) (by omega); simpa using this) (by simpa using h0)]
theorem putT_ins : ∀ (l : List Triple) (t : Triple) (i : Nat), i ≤ l.length → (∀ j (h : j < l.length), j < i → cmpT l[j] t < 0) → (∀ h : i < l.length, 0 < cmpT l[i] t) → putT l t = l.take i ++ [t] ++ l.drop i
  | [], _, i, _, _, _ => by simp [putT]
  | x :: l, t, 0, _, _, h0 => by
    have := h0 (by simp)
    simp at this
    rw [putT, if_neg (by omega), if_neg (by omega)]
    simp
  | x :: l, t, i + 1, hi, hlt, h0 => by
    have h1 := hlt 0 (by simp) (by omega)
    simp at h1
    rw [putT, if_pos h1, putT_ins l t i (by simpa using hi) (fun j h hj => by have := hlt (j + 1) (by simpa using h) (by omega); simpa using this) (fun h => by have := h0 (by simpa using h); simpa using this)]
    simp
set_option maxHeartbeats 12800000 in
set_option maxRecDepth 100000 in
theorem put_calls (l : List Triple) (t : Triple) (A : Option Addr) (c : Nat) (w : World) (HL : triK.sl.M w (fun k => k < w.heap.size) l [.slice A l.length c]) (hs : ∀ x ∈ l, SmallT x) (hst : SmallT t) (hft : FitsW3 t) (hb : l.length ≤ 1000000) :
    Calls Tryz.prog 50 #[.slice A l.length c, Ref5.tripleV t] w fun e w' => ∃ A' c', e = .returned (.slice A' (putT l t).length c') ∧ triK.sl.M w' TT (putT l t) [.slice A' (putT l t).length c'] ∧ Below w.heap.size w w' := by
  have HR := Lib.hid (row_cells HL)
  have HS := Lib.hid hs
  have HF := Lib.hid (row_fits HL)
  have h47 := sl_len HL
  obtain ⟨A', c', he, hlc, ⟨hl47, hcm⟩, hA, hrow⟩ := HL
  obtain ⟨rfl, rfl⟩ : A = A' ∧ c = c' := by simpa using he
  clear he
  have HROW : Hid (triK.row w TT A l) := Lib.hid (Kd.row_mono (fun _ _ _ => trivial) hrow)
  have HC0 := Lib.hid (C9.new w t)
  have HX : Hid (Ref5.tripleV t = .agg (triL t).toArray) := Lib.hid rfl
  clear hrow hs
  unfold Ref5.tripleV
  go_enter Tryz.func50, Tryz.ntmps50
  go_wp2
  go_loopw [5] (fun vi wr => ∃ i : Nat, vi = .int .i64 i ∧ i ≤ l.length ∧ Hid ((∀ j (h : j < l.length), j < i → cmpT l[j] t < 0) ∧ Below w.heap.size w wr ∧ C9 wr w.heap.size 0 t)) (fun vi _ => l.length - (intOf vi).toNat)
  case atStart => exact ⟨0, rfl, by omega, Lib.hid ⟨fun j h hj => by omega, bel_alloc (Below.refl _ _) _, HC0.out⟩⟩
  case round =>
    obtain ⟨i, rfl, hiL, HI⟩ := hrel
    clear HC0
    by_cases hlt : i < l.length
    · have hd : decide (i < l.length) = true := decide_eq_true hlt
      have ik : (i : Int) < (l.length : Int) := by omega
      obtain ⟨b, off, rfl, hbs, hcells⟩ := HR.out i hlt
      have hcx := (hcells i hlt).below HI.out.2.1
      have hcy := HI.out.2.2
      obtain ⟨x, hx⟩ : ∃ x, x = l[i] := ⟨_, rfl⟩
      rw [← hx] at hcx
      have HCC := Lib.hid (fun w => RefCmp.cmp5_calls x t (by rw [hx]; exact HS.out _ (List.getElem_mem hlt)) hst w)
      obtain ⟨v, hv⟩ : ∃ v, v = cmpT x t := ⟨_, rfl⟩
      rw [← hv] at HCC
      have HNext : Hid (v < 0 → ∀ j (h : j < l.length), j < i + 1 → cmpT l[j] t < 0) := Lib.hid (fun h j hj hji => by
        by_cases e : j = i
        · subst e
          rw [← hx, ← hv]
          exact h
        · exact HI.out.1 j hj (by omega))
      have HSame : Hid (v = 0 → putT l t = l) := Lib.hid (fun h => putT_same l t i hlt HI.out.1 (by rw [← hx, ← hv]; exact h))
      have HIns : Hid (0 < v → putT l t = l.take i ++ [t] ++ l.drop i) := Lib.hid (fun h => putT_ins l t i hiL HI.out.1 (fun h2 => by rw [← hx, ← hv]; exact h))
      have HIW := Lib.hid HI.out.2
      clear hcells hx hv
      by_cases hv0 : v < 0
      · have hvd : decide (v < 0) = true := decide_eq_true hv0
        have HNx := Lib.hid (HNext.out hv0)
        clear HNext HSame HIns hv0
        obtain ⟨⟨sk, sx, se⟩, ⟨pk, px, pe⟩, ⟨ok, ox, oe⟩⟩ := x
        obtain ⟨⟨sk', sx', se'⟩, ⟨pk', px', pe'⟩, ⟨ok', ox', oe'⟩⟩ := t
        have x0 := fun p => (hcx.bel p).c0
        have x1 := fun p => (hcx.bel p).c1
        have x2 := fun p => (hcx.bel p).c2
        have x3 := fun p => (hcx.bel p).c3
        have x4 := fun p => (hcx.bel p).c4
        have x5 := fun p => (hcx.bel p).c5
        have x6 := fun p => (hcx.bel p).c6
        have x7 := fun p => (hcx.bel p).c7
        have x8 := fun p => (hcx.bel p).c8
        have y0 := fun p => (hcy.bel p).c0
        have y1 := fun p => (hcy.bel p).c1
        have y2 := fun p => (hcy.bel p).c2
        have y3 := fun p => (hcy.bel p).c3
        have y4 := fun p => (hcy.bel p).c4
        have y5 := fun p => (hcy.bel p).c5
        have y6 := fun p => (hcy.bel p).c6
        have y7 := fun p => (hcy.bel p).c7
        have y8 := fun p => (hcy.bel p).c8
        dsimp only at x0 x1 x2 x3 x4 x5 x6 x7 x8 y0 y1 y2 y3 y4 y5 y6 y7 y8
        unfold Ref5.tripleV at HCC
        dsimp only at HCC
        go_upto_region 2 with fail
        refine QT.region_all (by kernel_rfl) (by kernel_rfl) ?_
        iterate 10 (go_big_quiet_step (fail))
        go_big_quiet_step (exact QT.Bel.call _ (HCC.out _))
        iterate 2 (go_big_quiet_step (fail))
        refine wpQuiet_nil ?_
        intro w2 hw'
        obtain ⟨⟨_, hb⟩, rfl⟩ := hw'
        have HW2 : Hid (Below w.heap.size w w2 ∧ C9 w2 w.heap.size 0 ⟨⟨sk', sx', se'⟩, ⟨pk', px', pe'⟩, ⟨ok', ox', oe'⟩⟩) := Lib.hid ⟨bel_step HIW.out.1 hb, hcy.below hb⟩
        clear hb x0 x1 x2 x3 x4 x5 x6 x7 x8 y0 y1 y2 y3 y4 y5 y6 y7 y8 hcx hcy HI HIW
        go_wp2
        go_roundw
        case rel => exact ⟨i + 1, by go_num, by omega, Lib.hid ⟨HNx.out, HW2.out⟩⟩
        case measure => simp [intOf]; omega
      · have hvd : decide (v < 0) = false := decide_eq_false hv0
        by_cases hve0 : v = 0
        · have hve : (v == 0) = true := by rw [hve0]; rfl
          have HPut := Lib.hid (HSame.out hve0)
          clear HNext HSame HIns hv0
          obtain ⟨⟨sk, sx, se⟩, ⟨pk, px, pe⟩, ⟨ok, ox, oe⟩⟩ := x
          obtain ⟨⟨sk', sx', se'⟩, ⟨pk', px', pe'⟩, ⟨ok', ox', oe'⟩⟩ := t
          have x0 := fun p => (hcx.bel p).c0
          have x1 := fun p => (hcx.bel p).c1
          have x2 := fun p => (hcx.bel p).c2
          have x3 := fun p => (hcx.bel p).c3
          have x4 := fun p => (hcx.bel p).c4
          have x5 := fun p => (hcx.bel p).c5
          have x6 := fun p => (hcx.bel p).c6
          have x7 := fun p => (hcx.bel p).c7
          have x8 := fun p => (hcx.bel p).c8
          have y0 := fun p => (hcy.bel p).c0
          have y1 := fun p => (hcy.bel p).c1
          have y2 := fun p => (hcy.bel p).c2
          have y3 := fun p => (hcy.bel p).c3
          have y4 := fun p => (hcy.bel p).c4
          have y5 := fun p => (hcy.bel p).c5
          have y6 := fun p => (hcy.bel p).c6
          have y7 := fun p => (hcy.bel p).c7
          have y8 := fun p => (hcy.bel p).c8
          dsimp only at x0 x1 x2 x3 x4 x5 x6 x7 x8 y0 y1 y2 y3 y4 y5 y6 y7 y8
          unfold Ref5.tripleV at HCC
          dsimp only at HCC
          go_upto_region 2 with fail
          refine QT.region_all (by kernel_rfl) (by kernel_rfl) ?_
          iterate 10 (go_big_quiet_step (fail))
          go_big_quiet_step (exact QT.Bel.call _ (HCC.out _))
          iterate 2 (go_big_quiet_step (fail))
          refine wpQuiet_nil ?_
          intro w2 hw'
          obtain ⟨⟨_, hb⟩, rfl⟩ := hw'
          have HW2 : Hid (Below w.heap.size w w2 ∧ C9 w2 w.heap.size 0 ⟨⟨sk', sx', se'⟩, ⟨pk', px', pe'⟩, ⟨ok', ox', oe'⟩⟩) := Lib.hid ⟨bel_step HIW.out.1 hb, hcy.below hb⟩
          have hcx := hcx.below hb
          have hcy := HW2.out.2
          clear hb x0 x1 x2 x3 x4 x5 x6 x7 x8 y0 y1 y2 y3 y4 y5 y6 y7 y8 HI HIW
          go_wp2
          have x0 := fun p => (hcx.bel p).c0
          have x1 := fun p => (hcx.bel p).c1
          have x2 := fun p => (hcx.bel p).c2
          have x3 := fun p => (hcx.bel p).c3
          have x4 := fun p => (hcx.bel p).c4
          have x5 := fun p => (hcx.bel p).c5
          have x6 := fun p => (hcx.bel p).c6
          have x7 := fun p => (hcx.bel p).c7
          have x8 := fun p => (hcx.bel p).c8
          have y0 := fun p => (hcy.bel p).c0
          have y1 := fun p => (hcy.bel p).c1
          have y2 := fun p => (hcy.bel p).c2
          have y3 := fun p => (hcy.bel p).c3
          have y4 := fun p => (hcy.bel p).c4
          have y5 := fun p => (hcy.bel p).c5
          have y6 := fun p => (hcy.bel p).c6
          have y7 := fun p => (hcy.bel p).c7
          have y8 := fun p => (hcy.bel p).c8
          dsimp only at x0 x1 x2 x3 x4 x5 x6 x7 x8 y0 y1 y2 y3 y4 y5 y6 y7 y8
          go_upto_region 4 with fail
          refine QT.region_all (by kernel_rfl) (by kernel_rfl) ?_
          iterate 10 (go_big_quiet_step (fail))
          go_big_quiet_step (exact QT.Bel.call _ (HCC.out _))
          iterate 2 (go_big_quiet_step (fail))
          refine wpQuiet_nil ?_
          intro w2 hw'
          obtain ⟨⟨_, hb⟩, rfl⟩ := hw'
          have HB3 := Lib.hid (bel_step HW2.out.1 hb)
          clear hb x0 x1 x2 x3 x4 x5 x6 x7 x8 y0 y1 y2 y3 y4 y5 y6 y7 y8 hcx hcy HW2
          go_wp2
          go_ret
          rw [HPut.out]
          exact ⟨_, _, rfl, ⟨_, _, rfl, hlc, ⟨hl47, hcm⟩, hA, Kd.row_below HROW.out HB3.out⟩, HB3.out⟩
        · have hve : (v == 0) = false := by rw [beq_eq_false_iff_ne]; exact hve0
          have HPut := Lib.hid (HIns.out (by omega))
          clear HNext HSame HIns hv0 hve0
          obtain ⟨⟨sk, sx, se⟩, ⟨pk, px, pe⟩, ⟨ok, ox, oe⟩⟩ := x
          obtain ⟨⟨sk', sx', se'⟩, ⟨pk', px', pe'⟩, ⟨ok', ox', oe'⟩⟩ := t
          have x0 := fun p => (hcx.bel p).c0
          have x1 := fun p => (hcx.bel p).c1
          have x2 := fun p => (hcx.bel p).c2
          have x3 := fun p => (hcx.bel p).c3
          have x4 := fun p => (hcx.bel p).c4
          have x5 := fun p => (hcx.bel p).c5
          have x6 := fun p => (hcx.bel p).c6
          have x7 := fun p => (hcx.bel p).c7
          have x8 := fun p => (hcx.bel p).c8
          have y0 := fun p => (hcy.bel p).c0
          have y1 := fun p => (hcy.bel p).c1
          have y2 := fun p => (hcy.bel p).c2
          have y3 := fun p => (hcy.bel p).c3
          have y4 := fun p => (hcy.bel p).c4
          have y5 := fun p => (hcy.bel p).c5
          have y6 := fun p => (hcy.bel p).c6
          have y7 := fun p => (hcy.bel p).c7
          have y8 := fun p => (hcy.bel p).c8
          dsimp only at x0 x1 x2 x3 x4 x5 x6 x7 x8 y0 y1 y2 y3 y4 y5 y6 y7 y8
          unfold Ref5.tripleV at HCC
          dsimp only at HCC
          go_upto_region 2 with fail
          refine QT.region_all (by kernel_rfl) (by kernel_rfl) ?_
          iterate 10 (go_big_quiet_step (fail))
          go_big_quiet_step (exact QT.Bel.call _ (HCC.out _))
          iterate 2 (go_big_quiet_step (fail))
          refine wpQuiet_nil ?_
          intro w2 hw'
          obtain ⟨⟨_, hb⟩, rfl⟩ := hw'
          have HW2 : Hid (Below w.heap.size w w2 ∧ C9 w2 w.heap.size 0 ⟨⟨sk', sx', se'⟩, ⟨pk', px', pe'⟩, ⟨ok', ox', oe'⟩⟩) := Lib.hid ⟨bel_step HIW.out.1 hb, hcy.below hb⟩
          have hcx := hcx.below hb
          have hcy := HW2.out.2
          clear hb x0 x1 x2 x3 x4 x5 x6 x7 x8 y0 y1 y2 y3 y4 y5 y6 y7 y8 HI HIW
          go_wp2
          have x0 := fun p => (hcx.bel p).c0
          have x1 := fun p => (hcx.bel p).c1
          have x2 := fun p => (hcx.bel p).c2
          have x3 := fun p => (hcx.bel p).c3
          have x4 := fun p => (hcx.bel p).c4
          have x5 := fun p => (hcx.bel p).c5
          have x6 := fun p => (hcx.bel p).c6
          have x7 := fun p => (hcx.bel p).c7
          have x8 := fun p => (hcx.bel p).c8
          have y0 := fun p => (hcy.bel p).c0
          have y1 := fun p => (hcy.bel p).c1
          have y2 := fun p => (hcy.bel p).c2
          have y3 := fun p => (hcy.bel p).c3
          have y4 := fun p => (hcy.bel p).c4
          have y5 := fun p => (hcy.bel p).c5
          have y6 := fun p => (hcy.bel p).c6
          have y7 := fun p => (hcy.bel p).c7
          have y8 := fun p => (hcy.bel p).c8
          dsimp only at x0 x1 x2 x3 x4 x5 x6 x7 x8 y0 y1 y2 y3 y4 y5 y6 y7 y8
          go_upto_region 4 with fail
          refine QT.region_all (by kernel_rfl) (by kernel_rfl) ?_
          iterate 10 (go_big_quiet_step (fail))
          go_big_quiet_step (exact QT.Bel.call _ (HCC.out _))
          iterate 2 (go_big_quiet_step (fail))
          refine wpQuiet_nil ?_
          intro w2 hw'
          obtain ⟨⟨_, hb⟩, rfl⟩ := hw'
          have HB3 := Lib.hid (bel_step HW2.out.1 hb)
          have hcz := hcy.below hb
          clear hb x0 x1 x2 x3 x4 x5 x6 x7 x8 y0 y1 y2 y3 y4 y5 y6 y7 y8 hcx hcy HW2
          go_wp2
          obtain ⟨A1, -, -, htake, hrow1⟩ := Kd.cut_run (P := Tryz.prog) triK 22 36 Tryz.underlying22 cellsT zeroV 120 info_tri (some ⟨b, off, none⟩) l.length c 0 i (Nat.zero_le _) hiL hlc ⟨hl47, hcm⟩ hA
          obtain ⟨A2, -, hdrop, -, hrow2⟩ := Kd.cut_run (P := Tryz.prog) triK 22 36 Tryz.underlying22 cellsT zeroV 120 info_tri (some ⟨b, off, none⟩) l.length c i l.length hiL (Nat.le_refl _) hlc ⟨hl47, hcm⟩ hA
          have HQ1 := Lib.hid (hrow1 w TT l rfl HROW.out)
          have HQ2 := Lib.hid (hrow2 w TT l rfl HROW.out)
          rw [List.drop_zero] at HQ1
          rw [List.take_length] at HQ2
          obtain ⟨pre, hpre⟩ : ∃ pre, pre = l.take i := ⟨_, rfl⟩
          obtain ⟨suf, hsuf⟩ : ∃ suf, suf = l.drop i := ⟨_, rfl⟩
          have hpl : pre.length = i := by rw [hpre, List.length_take]; omega
          have hsl : suf.length = l.length - i := by rw [hsuf, List.length_drop]
          have hs1 : ∀ (kh : IntKind) (w : World), (Instr.slice 22 (.slice (some ⟨b, off, none⟩) l.length c) none (some (.int kh (i : Int))) none).run Tryz.prog w = .ok (.slice A1 pre.length c) w := fun kh w => by rw [hpl]; exact htake kh w rfl
          obtain ⟨c2, hc2⟩ : ∃ c2, c2 = c - i := ⟨_, rfl⟩
          have hs2 : ∀ (kl : IntKind) (w : World), (Instr.slice 22 (.slice (some ⟨b, off, none⟩) l.length c) (some (.int kl (i : Int))) none none).run Tryz.prog w = .ok (.slice A2 suf.length c2) w := fun kl w => by rw [hsl, hc2]; exact hdrop kl w rfl
          rw [Nat.sub_zero, Nat.sub_zero, ← hpre, ← hpl] at HQ1
          rw [← hsuf, ← hsl, ← hc2] at HQ2
          rw [← hpre, ← hsuf] at HPut
          have hbp : pre.length ≤ 1000000 := by omega
          have hbs2 : suf.length ≤ 1000000 := by omega
          clear htake hdrop hrow1 hrow2 hpre hsuf hc2
          clear hpl hsl
          have HZ := Lib.hid hcz
          have hB := HB3.out
          have hY := Below.refl w2.heap.size w2
          obtain ⟨n0, n1, n2, n3, n4, n5, n6, n7, n8⟩ := hcz
          dsimp only at n0 n1 n2 n3 n4 n5 n6 n7 n8
          go_cut [4] (fun v4 wx => Hid (triK.own 36 wx w2.heap.size TT v4 (pre ++ [⟨⟨sk', sx', se'⟩, ⟨pk', px', pe'⟩, ⟨ok', ox', oe'⟩⟩] ++ suf)) ∧ Hid (Below w.heap.size w wx))
          case first =>
            go_region_held3 (fun w' => w'.cell? ⟨w.heap.size, 0, none⟩ = some (Value.int .i64 sk') ∧ w'.cell? ⟨w.heap.size, 1, none⟩ = some (Value.string (mkS sx')) ∧ w'.cell? ⟨w.heap.size, 2, none⟩ = some (Value.string (mkS se')) ∧ w'.cell? ⟨w.heap.size, 3, none⟩ = some (Value.int .i64 pk') ∧ w'.cell? ⟨w.heap.size, 4, none⟩ = some (Value.string (mkS px')) ∧ w'.cell? ⟨w.heap.size, 5, none⟩ = some (Value.string (mkS pe')) ∧ w'.cell? ⟨w.heap.size, 6, none⟩ = some (Value.int .i64 ok') ∧ w'.cell? ⟨w.heap.size, 7, none⟩ = some (Value.string (mkS ox')) ∧ w'.cell? ⟨w.heap.size, 8, none⟩ = some (Value.string (mkS oe')))
              (exact nine (HZ.out.below (by (repeat (first | assumption | exact Below.refl _ _ | refine bel_alloc ?_ _ | refine bel_drew ?_)))))
              (first
                | (refine Kd.own_app_step triK (w0 := w2) w2.heap.size (by rfl) (.tmp 35) (.tmp 38) 22 36 zeroV 120 (by rfl) Tryz.underlying22 info_tri rfl (by decide) (.slice (some ⟨w2.heap.size, 0, none⟩) 0 0) [] pre A1 c TT (by rfl) (by rfl) ?ho (.inr ⟨?hr, any_tri⟩) ?hb ?hs ?hl ?_; go_loud (case hl => simp; omega); go_loud (case ho => first | exact own0_1 _ | exact Kd.own_drew (own0_1 _) | exact Kd.own_drew (Kd.own_alloc (own0_1 _) _) | exact Kd.own_drew (own0_2 _ _)); go_loud (case hr => exact Kd.M_below HQ1.out (by (repeat (first | assumption | exact Below.refl _ _ | refine bel_alloc ?_ _ | refine bel_drew ?_)))); go_loud (case hb => repeat (first | assumption | exact Below.refl _ _ | refine bel_alloc ?_ _ | refine bel_drew ?_)); go_loud (case hs => simp; try omega); intro v1 w1 ho1 hb1 hg1 hv1; go_loud (rw [List.nil_append] at ho1); have HO1 := Lib.hid ho1; clear ho1 hv1)
                | (refine Kd.own_app_step triK (w0 := w2) w2.heap.size (by rfl) (.tmp 35) (.tmp 38) 22 36 zeroV 120 (by rfl) Tryz.underlying22 info_tri rfl (by decide) (.slice (some ⟨w2.heap.size + 1, 0, none⟩) 0 0) [] pre A1 c TT (by rfl) (by rfl) ?ho (.inr ⟨?hr, any_tri⟩) ?hb ?hs ?hl ?_; go_loud (case hl => simp; omega); go_loud (case ho => first | exact own0_1 _ | exact Kd.own_drew (own0_1 _) | exact Kd.own_drew (Kd.own_alloc (own0_1 _) _) | exact Kd.own_drew (own0_2 _ _)); go_loud (case hr => exact Kd.M_below HQ1.out (by (repeat (first | assumption | exact Below.refl _ _ | refine bel_alloc ?_ _ | refine bel_drew ?_)))); go_loud (case hb => repeat (first | assumption | exact Below.refl _ _ | refine bel_alloc ?_ _ | refine bel_drew ?_)); go_loud (case hs => simp; try omega); intro v1 w1 ho1 hb1 hg1 hv1; go_loud (rw [List.nil_append] at ho1); have HO1 := Lib.hid ho1; clear ho1 hv1)
                | (refine Kd.own_app_step triK (w0 := w2) w2.heap.size (by rfl) (.tmp 39) (.tmp 41) 22 36 zeroV 120 (by rfl) Tryz.underlying22 info_tri rfl (by decide) v1 pre [⟨⟨sk', sx', se'⟩, ⟨pk', px', pe'⟩, ⟨ok', ox', oe'⟩⟩] _ 1 TT (by rfl) (by rfl) ?ho (.inr ⟨?hr, any_tri⟩) ?hb ?hs ?hl ?_; go_loud (case hl => simp; omega); go_loud (case ho => repeat (first | exact HO1.out | refine Kd.own_drew ?_ | refine Kd.own_alloc ?_ _)); go_loud (case hr => first | exact triK.sl.mono (fun _ _ _ => trivial) (Known.one_row _ ⟨⟨sk', sx', se'⟩, ⟨pk', px', pe'⟩, ⟨ok', ox', oe'⟩⟩ hft) | (refine one_grown hft ?_ hg1 ?_; (first | exact C9_new1 _ _ ⟨⟨sk', sx', se'⟩, ⟨pk', px', pe'⟩, ⟨ok', ox', oe'⟩⟩ | exact C9_new2 _ ⟨⟨sk', sx', se'⟩, ⟨pk', px', pe'⟩, ⟨ok', ox', oe'⟩⟩ _); (simp [Value.ownBlock]))); go_loud (case hb => repeat (first | assumption | exact Below.refl _ _ | refine bel_alloc ?_ _ | refine bel_drew ?_)); go_loud (case hs => have := hb1.size; first | omega | (simp; omega)); intro v2 w4 ho2 hb2 hg2 hv2; have HO2 := Lib.hid ho2; clear ho2 hg2 hv2)
                | (refine Kd.own_app_step triK (w0 := w2) w2.heap.size (by rfl) (.tmp 42) (.tmp 45) 22 36 zeroV 120 (by rfl) Tryz.underlying22 info_tri rfl (by decide) v2 (pre ++ [⟨⟨sk', sx', se'⟩, ⟨pk', px', pe'⟩, ⟨ok', ox', oe'⟩⟩]) suf A2 c2 TT (by rfl) (by rfl) ?ho (.inr ⟨?hr, any_tri⟩) ?hb ?hs ?hl ?_; go_loud (case hl => simp; omega); go_loud (case ho => repeat (first | exact HO2.out | refine Kd.own_drew ?_ | refine Kd.own_alloc ?_ _)); go_loud (case hr => exact Kd.M_below HQ2.out (bel_step hB (by (repeat (first | assumption | exact Below.refl _ _ | refine bel_alloc ?_ _ | refine bel_drew ?_))))); go_loud (case hb => repeat (first | assumption | exact Below.refl _ _ | refine bel_alloc ?_ _ | refine bel_drew ?_)); go_loud (case hs => have := hb2.size; first | omega | (simp; omega)); intro v3 w5 ho3 hb3 hg3 hv3; have HO3 := Lib.hid ho3; clear ho3 hg3 hv3)
                | fail)
            all_goals (go_wp2_with fail; go_meet; exact ⟨HO3, Lib.hid (bel_step hB hb3)⟩)
          case rest =>
            obtain ⟨HO, HB6⟩ := hcut
            obtain ⟨A9, c9, rfl, _, _⟩ := Kd.own_slice HO.out
            have HM9 := Lib.hid (Kd.own_sl (ok' := TT) HO.out (fun _ _ => trivial) (fun _ _ => trivial))
            rw [← HPut.out] at HM9
            rw [← HPut.out]
            clear HO
            go_wp2
            go_ret
            exact ⟨_, _, rfl, HM9.out, HB6.out⟩
    · have hd : decide (i < l.length) = false := decide_eq_false hlt
      have HPut : Hid (putT l t = l.take i ++ [t] ++ l.drop i) := Lib.hid (putT_ins l t i hiL HI.out.1 (fun h => absurd h hlt))
      have HIW := Lib.hid HI.out.2
      clear HI hlt
      obtain ⟨⟨sk', sx', se'⟩, ⟨pk', px', pe'⟩, ⟨ok', ox', oe'⟩⟩ := t
      go_upto_region 2 with fail
      go_quiet (fail)
      go_wp2
      go_upto_region 4 with fail
      go_quiet (fail)
      go_upto_region 6 with fail
      generalize hwy : World.drewN _ _ = w2 at *
      have HB3 : Hid (Below w.heap.size w w2) := Lib.hid (by subst hwy; exact bel_drewN (bel_drewN HIW.out.1 _) _)
      have hcz : C9 w2 w.heap.size 0 ⟨⟨sk', sx', se'⟩, ⟨pk', px', pe'⟩, ⟨ok', ox', oe'⟩⟩ := by subst hwy; exact HIW.out.2.moved rfl
      clear hwy HIW
      obtain ⟨A1, -, -, htake, hrow1⟩ := Kd.cut_run (P := Tryz.prog) triK 22 36 Tryz.underlying22 cellsT zeroV 120 info_tri (A) l.length c 0 i (Nat.zero_le _) hiL hlc ⟨hl47, hcm⟩ hA
      obtain ⟨A2, -, hdrop, -, hrow2⟩ := Kd.cut_run (P := Tryz.prog) triK 22 36 Tryz.underlying22 cellsT zeroV 120 info_tri (A) l.length c i l.length hiL (Nat.le_refl _) hlc ⟨hl47, hcm⟩ hA
      have HQ1 := Lib.hid (hrow1 w TT l rfl HROW.out)
      have HQ2 := Lib.hid (hrow2 w TT l rfl HROW.out)
      rw [List.drop_zero] at HQ1
      rw [List.take_length] at HQ2
      obtain ⟨pre, hpre⟩ : ∃ pre, pre = l.take i := ⟨_, rfl⟩
      obtain ⟨suf, hsuf⟩ : ∃ suf, suf = l.drop i := ⟨_, rfl⟩
      have hpl : pre.length = i := by rw [hpre, List.length_take]; omega
      have hsl : suf.length = l.length - i := by rw [hsuf, List.length_drop]
      have hs1 : ∀ (kh : IntKind) (w : World), (Instr.slice 22 (.slice (A) l.length c) none (some (.int kh (i : Int))) none).run Tryz.prog w = .ok (.slice A1 pre.length c) w := fun kh w => by rw [hpl]; exact htake kh w rfl
      obtain ⟨c2, hc2⟩ : ∃ c2, c2 = c - i := ⟨_, rfl⟩
      have hs2 : ∀ (kl : IntKind) (w : World), (Instr.slice 22 (.slice (A) l.length c) (some (.int kl (i : Int))) none none).run Tryz.prog w = .ok (.slice A2 suf.length c2) w := fun kl w => by rw [hsl, hc2]; exact hdrop kl w rfl
      rw [Nat.sub_zero, Nat.sub_zero, ← hpre, ← hpl] at HQ1
      rw [← hsuf, ← hsl, ← hc2] at HQ2
      rw [← hpre, ← hsuf] at HPut
      have hbp : pre.length ≤ 1000000 := by omega
      have hbs2 : suf.length ≤ 1000000 := by omega
      clear htake hdrop hrow1 hrow2 hpre hsuf hc2
      clear hpl hsl
      have HZ := Lib.hid hcz
      have hB := HB3.out
      have hY := Below.refl w2.heap.size w2
      obtain ⟨n0, n1, n2, n3, n4, n5, n6, n7, n8⟩ := hcz
      dsimp only at n0 n1 n2 n3 n4 n5 n6 n7 n8
      go_cut [4] (fun v4 wx => Hid (triK.own 36 wx w2.heap.size TT v4 (pre ++ [⟨⟨sk', sx', se'⟩, ⟨pk', px', pe'⟩, ⟨ok', ox', oe'⟩⟩] ++ suf)) ∧ Hid (Below w.heap.size w wx))
      case first =>
        go_region_held3 (fun w' => w'.cell? ⟨w.heap.size, 0, none⟩ = some (Value.int .i64 sk') ∧ w'.cell? ⟨w.heap.size, 1, none⟩ = some (Value.string (mkS sx')) ∧ w'.cell? ⟨w.heap.size, 2, none⟩ = some (Value.string (mkS se')) ∧ w'.cell? ⟨w.heap.size, 3, none⟩ = some (Value.int .i64 pk') ∧ w'.cell? ⟨w.heap.size, 4, none⟩ = some (Value.string (mkS px')) ∧ w'.cell? ⟨w.heap.size, 5, none⟩ = some (Value.string (mkS pe')) ∧ w'.cell? ⟨w.heap.size, 6, none⟩ = some (Value.int .i64 ok') ∧ w'.cell? ⟨w.heap.size, 7, none⟩ = some (Value.string (mkS ox')) ∧ w'.cell? ⟨w.heap.size, 8, none⟩ = some (Value.string (mkS oe')))
          (exact nine (HZ.out.below (by (repeat (first | assumption | exact Below.refl _ _ | refine bel_alloc ?_ _ | refine bel_drew ?_)))))
          (first
            | (refine Kd.own_app_step triK (w0 := w2) w2.heap.size (by rfl) (.tmp 35) (.tmp 38) 22 36 zeroV 120 (by rfl) Tryz.underlying22 info_tri rfl (by decide) (.slice (some ⟨w2.heap.size, 0, none⟩) 0 0) [] pre A1 c TT (by rfl) (by rfl) ?ho (.inr ⟨?hr, any_tri⟩) ?hb ?hs ?hl ?_; go_loud (case hl => simp; omega); go_loud (case ho => first | exact own0_1 _ | exact Kd.own_drew (own0_1 _) | exact Kd.own_drew (Kd.own_alloc (own0_1 _) _) | exact Kd.own_drew (own0_2 _ _)); go_loud (case hr => exact Kd.M_below HQ1.out (by (repeat (first | assumption | exact Below.refl _ _ | refine bel_alloc ?_ _ | refine bel_drew ?_)))); go_loud (case hb => repeat (first | assumption | exact Below.refl _ _ | refine bel_alloc ?_ _ | refine bel_drew ?_)); go_loud (case hs => simp; try omega); intro v1 w1 ho1 hb1 hg1 hv1; go_loud (rw [List.nil_append] at ho1); have HO1 := Lib.hid ho1; clear ho1 hv1)
            | (refine Kd.own_app_step triK (w0 := w2) w2.heap.size (by rfl) (.tmp 35) (.tmp 38) 22 36 zeroV 120 (by rfl) Tryz.underlying22 info_tri rfl (by decide) (.slice (some ⟨w2.heap.size + 1, 0, none⟩) 0 0) [] pre A1 c TT (by rfl) (by rfl) ?ho (.inr ⟨?hr, any_tri⟩) ?hb ?hs ?hl ?_; go_loud (case hl => simp; omega); go_loud (case ho => first | exact own0_1 _ | exact Kd.own_drew (own0_1 _) | exact Kd.own_drew (Kd.own_alloc (own0_1 _) _) | exact Kd.own_drew (own0_2 _ _)); go_loud (case hr => exact Kd.M_below HQ1.out (by (repeat (first | assumption | exact Below.refl _ _ | refine bel_alloc ?_ _ | refine bel_drew ?_)))); go_loud (case hb => repeat (first | assumption | exact Below.refl _ _ | refine bel_alloc ?_ _ | refine bel_drew ?_)); go_loud (case hs => simp; try omega); intro v1 w1 ho1 hb1 hg1 hv1; go_loud (rw [List.nil_append] at ho1); have HO1 := Lib.hid ho1; clear ho1 hv1)
            | (refine Kd.own_app_step triK (w0 := w2) w2.heap.size (by rfl) (.tmp 39) (.tmp 41) 22 36 zeroV 120 (by rfl) Tryz.underlying22 info_tri rfl (by decide) v1 pre [⟨⟨sk', sx', se'⟩, ⟨pk', px', pe'⟩, ⟨ok', ox', oe'⟩⟩] _ 1 TT (by rfl) (by rfl) ?ho (.inr ⟨?hr, any_tri⟩) ?hb ?hs ?hl ?_; go_loud (case hl => simp; omega); go_loud (case ho => repeat (first | exact HO1.out | refine Kd.own_drew ?_ | refine Kd.own_alloc ?_ _)); go_loud (case hr => first | exact triK.sl.mono (fun _ _ _ => trivial) (Known.one_row _ ⟨⟨sk', sx', se'⟩, ⟨pk', px', pe'⟩, ⟨ok', ox', oe'⟩⟩ hft) | (refine one_grown hft ?_ hg1 ?_; (first | exact C9_new1 _ _ ⟨⟨sk', sx', se'⟩, ⟨pk', px', pe'⟩, ⟨ok', ox', oe'⟩⟩ | exact C9_new2 _ ⟨⟨sk', sx', se'⟩, ⟨pk', px', pe'⟩, ⟨ok', ox', oe'⟩⟩ _); (simp [Value.ownBlock]))); go_loud (case hb => repeat (first | assumption | exact Below.refl _ _ | refine bel_alloc ?_ _ | refine bel_drew ?_)); go_loud (case hs => have := hb1.size; first | omega | (simp; omega)); intro v2 w4 ho2 hb2 hg2 hv2; have HO2 := Lib.hid ho2; clear ho2 hg2 hv2)
            | (refine Kd.own_app_step triK (w0 := w2) w2.heap.size (by rfl) (.tmp 42) (.tmp 45) 22 36 zeroV 120 (by rfl) Tryz.underlying22 info_tri rfl (by decide) v2 (pre ++ [⟨⟨sk', sx', se'⟩, ⟨pk', px', pe'⟩, ⟨ok', ox', oe'⟩⟩]) suf A2 c2 TT (by rfl) (by rfl) ?ho (.inr ⟨?hr, any_tri⟩) ?hb ?hs ?hl ?_; go_loud (case hl => simp; omega); go_loud (case ho => repeat (first | exact HO2.out | refine Kd.own_drew ?_ | refine Kd.own_alloc ?_ _)); go_loud (case hr => exact Kd.M_below HQ2.out (bel_step hB (by (repeat (first | assumption | exact Below.refl _ _ | refine bel_alloc ?_ _ | refine bel_drew ?_))))); go_loud (case hb => repeat (first | assumption | exact Below.refl _ _ | refine bel_alloc ?_ _ | refine bel_drew ?_)); go_loud (case hs => have := hb2.size; first | omega | (simp; omega)); intro v3 w5 ho3 hb3 hg3 hv3; have HO3 := Lib.hid ho3; clear ho3 hg3 hv3)
            | fail)
        all_goals (go_wp2_with fail; go_meet; exact ⟨HO3, Lib.hid (bel_step hB hb3)⟩)
      case rest =>
        obtain ⟨HO, HB6⟩ := hcut
        obtain ⟨A9, c9, rfl, _, _⟩ := Kd.own_slice HO.out
        have HM9 := Lib.hid (Kd.own_sl (ok' := TT) HO.out (fun _ _ => trivial) (fun _ _ => trivial))
        rw [← HPut.out] at HM9
        rw [← HPut.out]
        clear HO
        go_wp2
        go_ret
        exact ⟨_, _, rfl, HM9.out, HB6.out⟩
end Go.Proofs.YtnplommdgfgboaaGreatDoor.SortW
set_option linter.unusedVariables false
set_option linter.unusedSimpArgs false
namespace Go.Proofs.YtnplommdgfgboaaGreatDoor.SortW
open Go.RowKit Go.Lib Go.Proofs.YtnplommdgfgboaaGreatDoor.B Go.Proofs.YtnplommdgfgboaaGreatDoor.Rd Go.Proofs.YtnplommdgfgboaaGreatDoor.Utf Go.Proofs.YtnplommdgfgboaaGreatDoor.TermPure Go.Proofs.YtnplommdgfgboaaGreatDoor.LinesPure Go.Proofs.YtnplommdgfgboaaGreatDoor.Tx Go.Proofs.YtnplommdgfgboaaGreatDoor.Env Go.Proofs.YtnplommdgfgboaaGreatDoor.Tri Go.Proofs.YtnplommdgfgboaaGreatDoor.SortP Go.Proofs.YtnplommdgfgboaaGreatDoor.Print Go.Proofs.YtnplommdgfgboaaGreatDoor.Cmp Go.Proofs.YtnplommdgfgboaaGreatDoor.Long
theorem putT_sub : ∀ (l : List Triple) (t x : Triple), x ∈ putT l t → x = t ∨ x ∈ l
  | [], t, x, h => by simpa [putT] using h
  | y :: l, t, x, h => by
    rw [putT] at h
    split at h
    · rcases List.mem_cons.1 h with h | h
      · exact .inr (by simp [h])
      · rcases putT_sub l t x h with h | h
        · exact .inl h
        · exact .inr (by simp [h])
    · split at h
      · exact .inr h
      · rcases List.mem_cons.1 h with h | h
        · exact .inl h
        · exact .inr h
theorem putT_len : ∀ (l : List Triple) (t : Triple), (putT l t).length ≤ l.length + 1
  | [], t => by simp [putT]
  | y :: l, t => by
    have := putT_len l t
    rw [putT]
    split
    · simp; omega
    · split <;> simp
def accT (l : List Triple) (k : Nat) : List Triple := (l.take k).foldl putT []
theorem accT_step (l : List Triple) (k : Nat) (h : k < l.length) : accT l (k + 1) = putT (accT l k) l[k] := by
  unfold accT
  rw [List.take_succ_eq_append_getElem h, List.foldl_append]
  rfl
theorem accT_sub (l : List Triple) : ∀ k, k ≤ l.length → ∀ x ∈ accT l k, x ∈ l
  | 0, _, x, h => by simp [accT] at h
  | k + 1, hk, x, h => by
    rw [accT_step l k (by omega)] at h
    rcases putT_sub _ _ _ h with h | h
    · rw [h]; exact List.getElem_mem _
    · exact accT_sub l k (by omega) x h
theorem accT_len (l : List Triple) : ∀ k, k ≤ l.length → (accT l k).length ≤ k
  | 0, _ => by simp [accT]
  | k + 1, hk => by
    rw [accT_step l k (by omega)]
    have := putT_len (accT l k) (l[k]'(by omega))
    have := accT_len l k (by omega)
    omega
theorem accT_all (l : List Triple) : accT l l.length = sortT l := by
  unfold accT sortT
  rw [List.take_length]
set_option maxHeartbeats 6400000 in
set_option maxRecDepth 100000 in
theorem refsort_calls (l : List Triple) (A : Option Addr) (c : Nat) (w : World) (HL : triK.sl.M w (fun k => k < w.heap.size) l [.slice A l.length c]) (hs : ∀ x ∈ l, SmallT x) (hb : l.length ≤ 1000000) :
    Calls Tryz.prog 21 #[.slice A l.length c] w fun e w' => ∃ A' c', e = .returned (.slice A' (sortT l).length c') ∧ triK.sl.M w' (fun k => k < w'.heap.size) (sortT l) [.slice A' (sortT l).length c'] ∧ Below w.heap.size w w' := by
  have HR := Lib.hid (row_cells HL)
  have HF := Lib.hid (row_fits HL)
  have HS := Lib.hid hs
  have h47 := sl_len HL
  clear HL hs
  go_enter Tryz.func21, Tryz.ntmps21
  go_wp2
  go_loopw [3, 4] (fun v3 vi wr => ∃ (k : Nat) (acc : List Triple) (A3 : Option Addr) (c3 : Nat), vi = .int .i64 k ∧ v3 = .slice A3 acc.length c3 ∧ k ≤ l.length ∧ Hid (acc = accT l k ∧ triK.sl.M wr TT acc [.slice A3 acc.length c3] ∧ Below w.heap.size w wr)) (fun _ vi _ => l.length - (intOf vi).toNat)
  case atStart => exact ⟨0, [], none, 0, rfl, rfl, by omega, Lib.hid ⟨rfl, ⟨none, 0, rfl, Nat.le_refl _, ⟨Nat.zero_le _, Nat.zero_le _⟩, fun _ => rfl, Kd.row_nil _ _ _ _⟩, Below.refl _ _⟩⟩
  case round =>
    obtain ⟨k, acc, A3, c3, rfl, rfl, hkL, HI⟩ := hrel
    by_cases hlt : k < l.length
    · have hd : decide (k < l.length) = true := decide_eq_true hlt
      have ik : (k : Int) < (l.length : Int) := by omega
      obtain ⟨b, off, rfl, hbs, hcells⟩ := HR.out k hlt
      have hcx := (hcells k hlt).below HI.out.2.2
      obtain ⟨x, hx⟩ : ∃ x, x = l[k] := ⟨_, rfl⟩
      rw [← hx] at hcx
      have HC := Lib.hid (put_calls acc x A3 c3 wr (triK.sl.mono (fun k _ hk => hk) HI.out.2.1) (fun y hy => HS.out y (accT_sub l k hkL y (by rw [← HI.out.1]; exact hy))) (by rw [hx]; exact HS.out _ (List.getElem_mem hlt)) (by rw [hx]; exact HF.out _ (List.getElem_mem hlt)) (by rw [HI.out.1]; exact Nat.le_trans (accT_len l k hkL) (by omega)))
      have HAcc : Hid (putT acc x = accT l (k + 1)) := Lib.hid (by rw [accT_step l k hlt, HI.out.1, hx])
      have HB := Lib.hid HI.out.2.2
      clear hcells hx HI
      obtain ⟨⟨sk, sx, se⟩, ⟨pk, px, pe⟩, ⟨ok, ox, oe⟩⟩ := x
      obtain ⟨x0, x1, x2, x3, x4, x5, x6, x7, x8⟩ := hcx
      dsimp only at x0 x1 x2 x3 x4 x5 x6 x7 x8
      unfold Ref5.tripleV at HC
      dsimp only at HC
      go_wp2_with fail
      refine HC.out.mono ?_
      rintro e w2 ⟨A4, c4, rfl, hM, hb2⟩
      have HN := Lib.hid (show _ ∧ _ ∧ _ from ⟨HAcc.out, hM, bel_step HB.out hb2⟩)
      clear HC hM hb2 HAcc HB
      go_wp2
      go_roundw
      case rel => exact ⟨k + 1, _, _, _, by go_num, rfl, by omega, HN⟩
      case measure => simp [intOf]; omega
    · have hd : decide (k < l.length) = false := decide_eq_false hlt
      obtain rfl : k = l.length := by omega
      have HN : Hid (acc = sortT l) := Lib.hid (by rw [HI.out.1, accT_all])
      have HM : Hid (triK.sl.M wr (fun k => k < wr.heap.size) acc [.slice A3 acc.length c3] ∧ Below w.heap.size w wr) := Lib.hid ⟨triK.sl.mono (fun k _ hk => hk) HI.out.2.1, HI.out.2.2⟩
      clear HI
      go_wp2
      go_ret
      rw [← HN.out]
      exact ⟨_, _, rfl, HM.out.1, HM.out.2⟩
end Go.Proofs.YtnplommdgfgboaaGreatDoor.SortW
set_option linter.unusedVariables false
set_option linter.unusedSimpArgs false
namespace Go.Proofs.YtnplommdgfgboaaGreatDoor.SortW
open Go.RowKit Go.Lib Go.Proofs.YtnplommdgfgboaaGreatDoor.B Go.Proofs.YtnplommdgfgboaaGreatDoor.Rd Go.Proofs.YtnplommdgfgboaaGreatDoor.Utf Go.Proofs.YtnplommdgfgboaaGreatDoor.TermPure Go.Proofs.YtnplommdgfgboaaGreatDoor.LinesPure Go.Proofs.YtnplommdgfgboaaGreatDoor.Tx Go.Proofs.YtnplommdgfgboaaGreatDoor.Env Go.Proofs.YtnplommdgfgboaaGreatDoor.Tri Go.Proofs.YtnplommdgfgboaaGreatDoor.SortP Go.Proofs.YtnplommdgfgboaaGreatDoor.Print Go.Proofs.YtnplommdgfgboaaGreatDoor.Cmp Go.Proofs.YtnplommdgfgboaaGreatDoor.Long
end Go.Proofs.YtnplommdgfgboaaGreatDoor.SortW
set_option linter.unusedVariables false
set_option linter.unusedSimpArgs false
namespace Go.Proofs.YtnplommdgfgboaaGreatDoor.FrontP
end Go.Proofs.YtnplommdgfgboaaGreatDoor.FrontP
set_option linter.unusedVariables false
set_option linter.unusedSimpArgs false
namespace Go.Proofs.YtnplommdgfgboaaGreatDoor.PackP
open Go.Proofs.YtnplommdgfgboaaGreatDoor.PackW
end Go.Proofs.YtnplommdgfgboaaGreatDoor.PackP
namespace Go.Proofs.YtnplommdgfgboaaGreatDoor.CrcPure
/-- One binary digit more. -/
def sh (x : Nat) : Nat := if 16777216 ≤ 2 * x then (2 * x) ^^^ 25578747 else 2 * x
def shN : Nat → Nat → Nat
  | 0, x => x
  | k + 1, x => shN k (sh x)
/-- One byte more. -/
def cstep (x : Nat) (c : UInt8) : Nat := shN 8 (x ^^^ (c.toNat * 65536))
attribute [irreducible] shN cstep
end Go.Proofs.YtnplommdgfgboaaGreatDoor.CrcPure
set_option linter.unusedVariables false
set_option linter.unusedSimpArgs false
namespace Go.Proofs.YtnplommdgfgboaaGreatDoor.BoxPure
open Go.Proofs.YtnplommdgfgboaaGreatDoor.CrcPure
abbrev Sec := Int × List UInt8
/-- IDs rise from above a number on. -/
def rising : Int → List Sec → Bool
  | _, [] => true
  | last, x :: l => decide (last < x.1) && (decide (x.1 ≤ 255) && rising x.1 l)
def total : List Sec → Nat
  | [] => 0
  | x :: l => x.2.length + total l
def May (l : List Sec) : Prop := l.length ≤ 8 ∧ rising 0 l = true ∧ 9 + 7 * l.length + total l ≤ 100000
instance (l : List Sec) : Decidable (May l) := by unfold May; exact inferInstance
end Go.Proofs.YtnplommdgfgboaaGreatDoor.BoxPure
set_option linter.unusedVariables false
set_option linter.unusedSimpArgs false
namespace Go.Proofs.YtnplommdgfgboaaGreatDoor.StoreP
open Go.Lib Go.Proofs.YtnplommdgfgboaaGreatDoor.TermPure Go.Proofs.YtnplommdgfgboaaGreatDoor.LinesPure Go.Proofs.YtnplommdgfgboaaGreatDoor.Tri Go.Proofs.YtnplommdgfgboaaGreatDoor.SortP Go.Proofs.YtnplommdgfgboaaGreatDoor.OrdG Go.Proofs.YtnplommdgfgboaaGreatDoor.ParseP Go.Proofs.YtnplommdgfgboaaGreatDoor.FrontP Go.Proofs.YtnplommdgfgboaaGreatDoor.PackW Go.Proofs.YtnplommdgfgboaaGreatDoor.PackP Go.Proofs.YtnplommdgfgboaaGreatDoor.BoxPure
theorem shown_short {t : Term} (h : is t = true) : (shown t).length ≤ 246 := by
  have hq := Show.quoted_len t.text
  unfold is at h
  unfold shown
  by_cases h1 : t.kind = 1
  · rw [if_pos h1] at h ⊢
    unfold isIRI at h
    simp only [Bool.and_eq_true, decide_eq_true_eq] at h
    simp
    omega
  rw [if_neg h1] at h ⊢
  by_cases h2 : t.kind = 2
  · rw [if_pos h2] at h ⊢
    unfold isLabel at h
    simp only [Bool.and_eq_true, decide_eq_true_eq] at h
    simp
    omega
  rw [if_neg h2] at h ⊢
  by_cases h3 : t.kind = 3
  · rw [if_pos h3] at h
    unfold isText at h
    simp only [Bool.and_eq_true, decide_eq_true_eq] at h
    rw [if_neg (by omega), if_neg (by omega)]
    omega
  rw [if_neg h3] at h
  by_cases h4 : t.kind = 4
  · rw [if_pos h4] at h ⊢
    unfold isText isLang at h
    simp only [Bool.and_eq_true, decide_eq_true_eq] at h
    simp
    omega
  rw [if_neg h4] at h ⊢
  by_cases h5 : t.kind = 5
  · rw [if_pos h5] at h ⊢
    unfold isText isIRI at h
    simp only [Bool.and_eq_true, decide_eq_true_eq] at h
    simp
    omega
  · rw [if_neg h5] at h
    cases h
def texts (T : List Triple) : List (List UInt8) := (termsT T).map shown
theorem ids_len (T : List Triple) : (idsT T).length = T.length := by unfold idsT; simp
end Go.Proofs.YtnplommdgfgboaaGreatDoor.StoreP
set_option linter.unusedVariables false
set_option linter.unusedSimpArgs false
namespace Go.Proofs.YtnplommdgfgboaaGreatDoor.FrontW
open Go.RowKit Go.Lib Go.Proofs.YtnplommdgfgboaaGreatDoor.B Go.Proofs.YtnplommdgfgboaaGreatDoor.Rd Go.Proofs.YtnplommdgfgboaaGreatDoor.StoreW Go.Proofs.YtnplommdgfgboaaGreatDoor.Clones Go.Proofs.YtnplommdgfgboaaGreatDoor.FrontP
def strs (l : List (List UInt8)) : List ByteArray := l.map mkS
theorem strs_len (l : List (List UInt8)) : (strs l).length = l.length := by simp [strs]
section
variable {W w0 : World} {ops : Array Oper} {rest : List Oper} {o : Oper} {a : Act} {Q : Exit → Act → World → Prop}
end
end Go.Proofs.YtnplommdgfgboaaGreatDoor.FrontW
set_option linter.unusedVariables false
set_option linter.unusedSimpArgs false
namespace Go.Proofs.YtnplommdgfgboaaGreatDoor.FrontW
open Go.RowKit Go.Lib Go.Proofs.YtnplommdgfgboaaGreatDoor.B Go.Proofs.YtnplommdgfgboaaGreatDoor.Rd Go.Proofs.YtnplommdgfgboaaGreatDoor.StoreW Go.Proofs.YtnplommdgfgboaaGreatDoor.Clones Go.Proofs.YtnplommdgfgboaaGreatDoor.FrontP
end Go.Proofs.YtnplommdgfgboaaGreatDoor.FrontW
set_option linter.unusedVariables false
set_option linter.unusedSectionVars false
set_option linter.unusedSimpArgs false
namespace Go.Proofs.YtnplommdgfgboaaGreatDoor.IdsW
open Go.RowKit Go.Lib Go.Proofs.YtnplommdgfgboaaGreatDoor.B Go.Proofs.YtnplommdgfgboaaGreatDoor.Rd Go.Proofs.YtnplommdgfgboaaGreatDoor.OrdG Go.Proofs.YtnplommdgfgboaaGreatDoor.StoreW Go.Proofs.YtnplommdgfgboaaGreatDoor.IdsCmp Go.Proofs.YtnplommdgfgboaaGreatDoor.TermW
/-- A pattern: a number, or any. -/
structure Pat where
  a : Int
  b : Int
  c : Int
deriving DecidableEq
def Pat.at (p : Pat) : Nat → Int
  | 0 => p.a
  | 1 => p.b
  | _ => p.c
def anyP : Pat := ⟨0, 0, 0⟩
def fitsB (n : Int) (x : Nat) : Bool := decide (n = 0) || decide (n = (x : Int))
def matchP (p : Pat) (x : Ids) : Bool := fitsB p.a x.a && fitsB p.b x.b && fitsB p.c x.c
theorem filter_any (l : List Ids) : l.filter (matchP anyP) = l := List.filter_eq_self.2 fun x _ => rfl
theorem match_no {p : Pat} {x : Ids} {k : Nat} (hk : k < 3) (h0 : p.at k ≠ 0) (h1 : p.at k ≠ (at3 x k : Nat)) : matchP p x = false := by
  unfold matchP fitsB
  match k, hk with
  | 0, _ => simp only [Pat.at, at3] at h0 h1; simp [h0, h1]
  | 1, _ => simp only [Pat.at, at3] at h0 h1; simp [h0, h1]
  | 2, _ => simp only [Pat.at, at3] at h0 h1; simp [h0, h1]
theorem match_yes {p : Pat} {x : Ids} (h : ∀ k, k < 3 → p.at k = 0 ∨ p.at k = (at3 x k : Nat)) : matchP p x = true := by
  have a0 := h 0 (by decide)
  have a1 := h 1 (by decide)
  have a2 := h 2 (by decide)
  simp only [Pat.at, at3] at a0 a1 a2
  unfold matchP fitsB
  simp [a0, a1, a2]
/-- A pattern's numbers, where they lie. -/
def P3 (w : World) (g o : Nat) (p : Pat) : Prop := ∀ k, k < 3 → w.cell? ⟨g, o + k, none⟩ = some (.int .i64 (p.at k))
def patL (p : Pat) : List Value := [.int .i64 p.a, .int .i64 p.b, .int .i64 p.c]
theorem P3.of {w : World} {g o : Nat} {x : Pat} (h : ∀ j u, (patL x)[j]? = some u → w.cell? ⟨g, o + j, none⟩ = some u) : P3 w g o x := fun k hk => by
  match k, hk with
  | 0, _ => exact h 0 _ rfl
  | 1, _ => exact h 1 _ rfl
  | 2, _ => exact h 2 _ rfl
theorem P3.lt {w : World} {g o : Nat} {x : Pat} (h : P3 w g o x) : g < w.heap.size := World.block_lt_of_cell? w ⟨g, o + 0, none⟩ (h 0 (by decide))
theorem P3.moved {w w' : World} {g o : Nat} {x : Pat} (h : P3 w g o x) (hm : w'.heap[g]? = w.heap[g]?) : P3 w' g o x := fun k hk => (World.cell?_of_block (a := ⟨g, o + k, none⟩) hm).trans (h k hk)
theorem P3.below {w w' : World} {g o : Nat} {x : Pat} (h : P3 w g o x) (hb : Below w.heap.size w w') : P3 w' g o x := h.moved (hb.block g h.lt)
theorem P3.new (w : World) (x : Pat) : P3 (w.alloc (.cells (patL x).toArray 40)) w.heap.size 0 x := P3.of fun j u hu => by
  unfold World.cell?
  dsimp only
  rw [Kd.heap_new, Nat.zero_add]
  simpa using hu
def put3 (w : World) (g o : Nat) (t : Ids) : World := ((w.setCell ⟨g, o, none⟩ (.int .i64 (t.a : Nat))).setCell ⟨g, o + 1, none⟩ (.int .i64 (t.b : Nat))).setCell ⟨g, o + 2, none⟩ (.int .i64 (t.c : Nat))
theorem put3_other (w : World) (g o : Nat) (t : Ids) (j : Nat) (h : j < o ∨ o + 3 ≤ j) : (put3 w g o t).cell? ⟨g, j, none⟩ = w.cell? ⟨g, j, none⟩ := by
  unfold put3
  iterate 3 rw [World.cell?_setCell_other _ _ _ _ (by simp; try omega)]
theorem put3_frozen (w : World) (g o : Nat) (t : Ids) (a : Addr) : (put3 w g o t).frozen? a = w.frozen? a := by
  unfold put3
  iterate 3 rw [World.frozen?_setCell]
theorem put3_grown (w : World) (g o : Nat) (t : Ids) : w.grownBy (put3 w g o t) (some g) := by
  unfold put3
  iterate 3 refine TermW.set_grown ?_ _ _
  exact World.grownBy.refl _ _
theorem put3_same {w : World} {g o : Nat} {t0 : Ids} (h : I3 w g o t0) (t : Ids) : I3 (put3 w g o t) g o t := by
  have s0 : (w.cell? ⟨g, o, none⟩).isSome = true := by have := h 0 (by decide); rw [Nat.add_zero] at this; rw [this]; rfl
  have s1 : (w.cell? ⟨g, o + 1, none⟩).isSome = true := by rw [h 1 (by decide)]; rfl
  have s2 : (w.cell? ⟨g, o + 2, none⟩).isSome = true := by rw [h 2 (by decide)]; rfl
  unfold put3
  intro k hk
  match k, hk with
  | 0, _ =>
    rw [Nat.add_zero]
    iterate 2 rw [World.cell?_setCell_other _ _ _ _ (by simp)]
    exact TermW.same_of s0
  | 1, _ =>
    iterate 1 rw [World.cell?_setCell_other _ _ _ _ (by simp)]
    exact TermW.same_of (TermW.some_set s1)
  | 2, _ => exact TermW.same_of (TermW.some_set (TermW.some_set s2))
/-- A row at the head of block g, of a call's own. -/
structure IR (W : World) (g : Nat) (l : List Ids) (w : World) : Prop where
  grown : W.grownBy w (some g)
  cells : ∀ i (h : i < l.length), I3 w g (i * 3) l[i]
  free : ∀ j, j < l.length * 3 → w.frozen? ⟨g, j, none⟩ = false
theorem IR.drewN {W w : World} {g : Nat} {l : List Ids} (h : IR W g l w) (n : Nat) : IR W g l (w.drewN n) :=
  ⟨⟨h.grown.os, h.grown.tape, h.grown.output, h.grown.size, h.grown.block⟩, fun i hi => (h.cells i hi).moved rfl, h.free⟩
theorem IR.below {W w w' : World} {g : Nat} {l : List Ids} (h : IR W g l w) (hg : g < w.heap.size) (hb : Below w.heap.size w w') : IR W g l w' :=
  ⟨h.grown.trans ⟨hb.os, hb.tape, hb.output, hb.size, fun k hk _ => hb.block k hk⟩, fun i hi => (h.cells i hi).below hb, fun j hj => (hb.frozen (p := ⟨g, j, none⟩) hg).trans (h.free j hj)⟩
theorem IR.at {W w : World} {g : Nat} {l : List Ids} (h : IR W g l w) {q : Nat} {x : Ids} (hx : l[q]? = some x) : I3 w g (q * 3) x := by
  obtain ⟨hi, rfl⟩ := List.getElem?_eq_some_iff.1 hx
  exact h.cells q hi
theorem IR.set {W w : World} {g : Nat} {l : List Ids} (h : IR W g l w) (i : Nat) (hi : i < l.length) (x : Ids) : IR W g (l.set i x) (put3 w g (i * 3) x) := by
  refine ⟨h.grown.trans (put3_grown _ _ _ _), fun k hk => ?_, fun q hq => ?_⟩
  · have hk' : k < l.length := by rw [List.length_set] at hk; exact hk
    by_cases e : k = i
    · subst e
      rw [List.getElem_set_self]
      exact put3_same (h.cells k hk') _
    · rw [List.getElem_set_ne (fun h => e h.symm)]
      have hc := h.cells k hk'
      exact fun d hd => (put3_other _ _ _ _ _ (by omega)).trans (hc d hd)
  · rw [put3_frozen]
    rw [List.length_set] at hq
    exact h.free q hq
/-- A row of a call's own, as it is worked in place. -/
theorem IR.of_own {w : World} {base : Nat} {ok : Nat → Prop} {v : Value} {l : List Ids} (h : idsK.own 40 w base ok v l) (hp : 0 < l.length) :
    ∃ g cap, v = .slice (some ⟨g, 0, none⟩) l.length cap ∧ base ≤ g ∧ g < w.heap.size ∧ l.length ≤ cap ∧ cap ≤ maxLen ∧ IR w g l w := by
  obtain ⟨_, cells, ho, hr⟩ := h
  have ho' := ho
  rcases ho'.2 with ⟨_, h0⟩ | ⟨g, cap, cur, rfl, hg, hh, hnc, hcm, hcs, htake⟩
  · omega
  · have hlt : g < w.heap.size := (Array.getElem?_eq_some_iff.1 hh).1
    refine ⟨g, cap, rfl, hg, hlt, hnc, hcm, World.grownBy.refl _ _, fun i hi => ?_, fun j hj => ?_⟩
    · obtain ⟨hc, _⟩ := hr i l[i] (List.getElem?_eq_getElem hi)
      refine I3.of fun j u hu => ?_
      rw [← hc] at hu
      have := ho.cells rfl _ _ (Kd.take_drop_get hu)
      rw [add_plain] at this
      exact this
    · unfold World.frozen?
      dsimp only
      rw [hh]
      simp
/-- .. and back. -/
theorem IR.sl {W w : World} {g cap : Nat} {l : List Ids} (h : IR W g l w) (hf : ∀ t ∈ l, FitsI t) (hl : l.length ≤ 140737488355328) (hc : l.length ≤ cap) (hcm : cap ≤ maxLen) (ok : Nat → Prop) (hok : ok g) :
    idsK.sl.M w ok l [.slice (some ⟨g, 0, none⟩) l.length cap] := by
  refine ⟨some ⟨g, 0, none⟩, cap, rfl, hc, ⟨hl, hcm⟩, fun h => (by cases h), fun i x hx => ?_⟩
  obtain ⟨hi, rfl⟩ := List.getElem?_eq_some_iff.1 hx
  refine ⟨_, idsL l[i], rfl, hok, ⟨rfl, hf _ (List.getElem_mem hi)⟩, fun j u hu => ?_⟩
  rw [add_plain]
  have hc3 := h.cells i hi
  have hj : j < 3 := (List.getElem?_eq_some_iff.1 hu).1
  match j, hj with
  | 0, _ => cases hu; exact hc3 0 (by decide)
  | 1, _ => cases hu; exact hc3 1 (by decide)
  | 2, _ => cases hu; exact hc3 2 (by decide)
section
variable {α : Type} [DecidableEq α] {f : α → Bool}
/-- What lies in the row as the loop has come to j, k of them kept. -/
structure FI (f : α → Bool) (R l' : List α) (L k j : Nat) : Prop where
  len : l'.length = L
  head : l'.take k = (R.take j).filter f
  tail : ∀ q, j ≤ q → l'[q]? = R[q]?
theorem FI.start {R : List α} {L k : Nat} (hL : R.length = L) (hk : k < L) (hy : ∀ i (h : i < R.length), i < k → f R[i] = true) (hn : f (R[k]'(by omega)) = false) : FI f R R L k (k + 1) := by
  refine ⟨hL, ?_, fun q _ => rfl⟩
  rw [List.take_succ_eq_append_getElem (by omega), List.filter_append, List.filter_cons, hn]
  simp only [List.filter_nil]
  rw [if_neg (by simp), List.append_nil]
  exact (List.filter_eq_self.2 fun x hx => by
    obtain ⟨i, hi, rfl⟩ := List.mem_take_iff_getElem.1 hx
    exact hy i (by omega) (by omega)).symm
theorem FI.drop {R l' : List α} {L k j : Nat} (h : FI f R l' L k j) (hL : R.length = L) (hj : j < L) (hn : f (R[j]'(by omega)) = false) : FI f R l' L k (j + 1) :=
  ⟨h.len, by
    rw [List.take_succ_eq_append_getElem (by omega), List.filter_append, List.filter_cons, hn, h.head]
    simp, fun q hq => h.tail q (by omega)⟩
theorem FI.put {R l' : List α} {L k j : Nat} (h : FI f R l' L k j) (hL : R.length = L) (hkj : k < j) (hj : j < L) (hy : f (R[j]'(by omega)) = true) : FI f R (l'.set k (R[j]'(by omega))) L (k + 1) (j + 1) :=
  ⟨by rw [List.length_set]; exact h.len, by
    rw [List.take_succ_eq_append_getElem (l := R) (by omega), List.filter_append, List.filter_cons, hy, TermW.take_set_lt _ _ _ (by rw [h.len]; omega), h.head]
    simp, fun q hq => by rw [List.getElem?_set_ne (by omega)]; exact h.tail q (by omega)⟩
end
theorem run_cutk (w : World) (g L cap k : Nat) (hk : k < L) (hc : L ≤ cap) : (Instr.slice 48 (.slice (some ⟨g, 0, none⟩) L cap) (some (.int .i64 (k : Int))) none none).run Tryz.prog w = .ok (.slice (some ⟨g, k * 3, none⟩) (L - k) (cap - k)) w := by
  have hu : (Tryz.prog).underlying 48 = some (.slice ((Tryz.prog).elem 48)) := by
    have := Tryz.underlying48
    simp [Program.elem, this]
  have hs : ∀ w, (sizeOf 40).run Tryz.prog w = .ok 3 w := Tryz.sizeOf40
  have he : (Tryz.prog).elem 48 = 40 := by simp [Program.elem, Tryz.underlying48]
  rw [run_slice_l w _ _ L cap hu .i64 (k : Int) (by omega) (by omega), he, hs]
  have : ¬ cap = k := by omega
  simp [sliced, Result.andThen, this, Addr.add_lit]
theorem run_takek (w : World) (g L cap k : Nat) (hk : k ≤ L) (hk0 : 0 < L) (hc : L ≤ cap) : (Instr.slice 48 (.slice (some ⟨g, 0, none⟩) L cap) none (some (.int .i64 (k : Int))) none).run Tryz.prog w = .ok (.slice (some ⟨g, 0, none⟩) k cap) w := by
  have hu : (Tryz.prog).underlying 48 = some (.slice ((Tryz.prog).elem 48)) := by
    have := Tryz.underlying48
    simp [Program.elem, this]
  have hs : ∀ w, (sizeOf 40).run Tryz.prog w = .ok 3 w := Tryz.sizeOf40
  have he : (Tryz.prog).elem 48 = 40 := by simp [Program.elem, Tryz.underlying48]
  rw [run_slice_h w _ _ L cap hu .i64 (k : Int) (by omega) (by omega), he, hs]
  have : ¬ cap = 0 := by omega
  simp [sliced, Result.andThen, this, Addr.add_lit]
theorem run_idx0 (a b c : Int) (w : World) : (Instr.index 40 (.agg #[.int .i64 a, .int .i64 b, .int .i64 c]) (.int .i64 0)).run Tryz.prog w = .ok (.int .i64 a) w := by
  have h := Tryz.underlying40
  have hs := Tryz.sizeOf3
  simp [Instr.index, run_underlying h, asIntOf, go_sem]
theorem run_idx1 (a b c : Int) (w : World) : (Instr.index 40 (.agg #[.int .i64 a, .int .i64 b, .int .i64 c]) (.int .i64 1)).run Tryz.prog w = .ok (.int .i64 b) w := by
  have h := Tryz.underlying40
  have hs := Tryz.sizeOf3
  simp [Instr.index, run_underlying h, asIntOf, go_sem]
theorem run_idx2 (a b c : Int) (w : World) : (Instr.index 40 (.agg #[.int .i64 a, .int .i64 b, .int .i64 c]) (.int .i64 2)).run Tryz.prog w = .ok (.int .i64 c) w := by
  have h := Tryz.underlying40
  have hs := Tryz.sizeOf3
  simp [Instr.index, run_underlying h, asIntOf, go_sem]
def zeroV : Value := .agg #[.int .i64 0, .int .i64 0, .int .i64 0]
theorem zeroCells_len (n : Nat) : (Builtin.zeroCells zeroV.cells n).toList.length = n * 3 := by
  simp [Builtin.zeroCells, zeroV, Value.cells]
theorem zeroCells_one (n : Nat) : ∀ v ∈ (Builtin.zeroCells zeroV.cells n).toList, v.oneCell' = true := by
  intro v hv
  have key : ∀ k : Nat, k < 3 → ((zeroV.cells)[k]!).oneCell' = true := by decide
  simp [Builtin.zeroCells] at hv
  obtain ⟨i, hi, rfl⟩ := hv
  exact key _ (Nat.mod_lt _ (by decide))
theorem run_clear (w : World) (ty : TypeId) (b o n c : Nat) (hn : 0 < n) (hc : ∀ j, j < n * 3 → (w.cell? ⟨b, o + j, none⟩).isSome = true) (hf : ∀ j, j < n * 3 → w.frozen? ⟨b, o + j, none⟩ = false) :
    (Builtin.clear_ #[48] ty #[.slice (some ⟨b, o, none⟩) n c]).run Tryz.prog w = .ok (.tuple #[]) (w.setCells b o (Builtin.zeroCells zeroV.cells n).toList) := by
  have hv : ∀ w, (zeroValue 40).run Tryz.prog w = .ok zeroV w := Tryz.zeroValue40
  have hst := run_storeCells_cells (P := Tryz.prog) b o (Builtin.zeroCells zeroV.cells n).toList 0 w (by rw [zeroCells_len]; simpa using hc) (by rw [zeroCells_len]; simpa using hf) (zeroCells_one n)
  simp only [Nat.add_zero] at hst
  obtain ⟨m, rfl⟩ : ∃ m, n = m + 1 := ⟨n - 1, by omega⟩
  simp only [Builtin.clear_]
  simp [run_underlying Tryz.underlying48, hv, hst]
end Go.Proofs.YtnplommdgfgboaaGreatDoor.IdsW
set_option linter.unusedVariables false
set_option linter.unusedSimpArgs false
namespace Go.Proofs.YtnplommdgfgboaaGreatDoor.IdsAll
open Go.RowKit Go.Lib Go.Proofs.YtnplommdgfgboaaGreatDoor.B Go.Proofs.YtnplommdgfgboaaGreatDoor.Rd Go.Proofs.YtnplommdgfgboaaGreatDoor.OrdG Go.Proofs.YtnplommdgfgboaaGreatDoor.StoreW Go.Proofs.YtnplommdgfgboaaGreatDoor.IdsCmp Go.Proofs.YtnplommdgfgboaaGreatDoor.IdsW Go.Proofs.YtnplommdgfgboaaGreatDoor.Clones
set_option maxHeartbeats 3200000 in
set_option maxRecDepth 100000 in
theorem matches_calls (p : Pat) (x : Ids) (w : World) : Calls Tryz.prog 54 #[.agg (patL p).toArray, .agg (idsL x).toArray] w fun e w' => e = .returned (.bool (matchP p x)) ∧ Below w.heap.size w w' := by
  have hb : Below w.heap.size w ((w.alloc (.cells (patL p).toArray 40)).alloc (.cells (idsL x).toArray 40)) := bel_alloc (bel_alloc (Below.refl _ _) _) _
  have hp : P3 ((w.alloc (.cells (patL p).toArray 40)).alloc (.cells (idsL x).toArray 40)) w.heap.size 0 p := (P3.new w p).below (bel_alloc (Below.refl _ _) _)
  have hx : I3 ((w.alloc (.cells (patL p).toArray 40)).alloc (.cells (idsL x).toArray 40)) (w.heap.size + 1) 0 x := by
    have := I3.new (w.alloc (.cells (patL p).toArray 40)) x
    rwa [show (w.alloc (.cells (patL p).toArray 40)).heap.size = w.heap.size + 1 by simp] at this
  obtain ⟨w0, hw0⟩ : ∃ w0, w0 = ((w.alloc (.cells (patL p).toArray 40)).alloc (.cells (idsL x).toArray 40)) := ⟨_, rfl⟩
  rw [← hw0] at hb hp hx
  have HB := Lib.hid hb
  have HW : Hid ((w.alloc (.cells (patL p).toArray 40)).alloc (.cells (idsL x).toArray 40) = w0) := Lib.hid hw0.symm
  have p0 := hp 0 (by decide)
  have p1 := hp 1 (by decide)
  have p2 := hp 2 (by decide)
  have x0 := hx 0 (by decide)
  have x1 := hx 1 (by decide)
  have x2 := hx 2 (by decide)
  simp only [Nat.zero_add, Pat.at, at3] at p0 p1 p2 x0 x1 x2
  have HN := Lib.hid (fun k hk => match_no (p := p) (x := x) (k := k) hk)
  have HY := Lib.hid (match_yes (p := p) (x := x))
  obtain ⟨v, hv⟩ : ∃ v, v = matchP p x := ⟨_, rfl⟩
  rw [← hv] at HN HY
  rw [← hv]
  clear hb hp hx hw0 hv
  obtain ⟨pa, pb, pc⟩ := p
  obtain ⟨xa, xb, xc⟩ := x
  unfold patL idsL at *
  dsimp only at *
  have hi0 := fun w => run_idx0 pa pb pc w
  have hi1 := fun w => run_idx1 pa pb pc w
  have hi2 := fun w => run_idx2 pa pb pc w
  go_enter Tryz.func54, Tryz.ntmps54
  go_upto_region 1 with fail
  rw [HW.out]
  clear HW
  go_wp2
  go_loopw [8] (fun vk wr => ∃ k : Nat, vk = .int .i64 k ∧ k ≤ 3 ∧ Hid (∀ j, j < k → (⟨pa, pb, pc⟩ : Pat).at j = 0 ∨ (⟨pa, pb, pc⟩ : Pat).at j = (at3 ⟨xa, xb, xc⟩ j : Nat)) ∧ w0 = wr) (fun vk _ => 3 - (intOf vk).toNat)
  case atStart => exact ⟨0, rfl, by omega, Lib.hid (fun j h => absurd h (by omega)), rfl⟩
  case round =>
    obtain ⟨k, rfl, hk, HJ, rfl⟩ := hrel
    rcases (by omega : k = 0 ∨ k = 1 ∨ k = 2 ∨ k = 3) with rfl | rfl | rfl | rfl
    · by_cases h0 : pa = 0
      · have hn0 : (pa != 0) = false := by simp [h0]
        have HJ2 : Hid (∀ j, j < 1 → (⟨pa, pb, pc⟩ : Pat).at j = 0 ∨ (⟨pa, pb, pc⟩ : Pat).at j = (at3 ⟨xa, xb, xc⟩ j : Nat)) := Lib.hid (fun j hj => by
          by_cases e : j = 0
          · subst e; exact .inl h0
          · exact HJ.out j (by omega))
        clear h0 HJ
        go_wp2
        go_roundw
        case rel => exact ⟨1, by go_num, by omega, HJ2, by first | rfl | trivial⟩
        case measure => simp [intOf]
      · have hn0 : (pa != 0) = true := by simp [h0]
        by_cases h1 : pa = (xa : Int)
        · have hn1 : (pa != (xa : Int)) = false := by simp [h1]
          have HJ2 : Hid (∀ j, j < 1 → (⟨pa, pb, pc⟩ : Pat).at j = 0 ∨ (⟨pa, pb, pc⟩ : Pat).at j = (at3 ⟨xa, xb, xc⟩ j : Nat)) := Lib.hid (fun j hj => by
            by_cases e : j = 0
            · subst e; exact .inr h1
            · exact HJ.out j (by omega))
          clear h0 h1 HJ
          go_wp2
          go_roundw
          case rel => exact ⟨1, by go_num, by omega, HJ2, by first | rfl | trivial⟩
          case measure => simp [intOf]
        · have hn1 : (pa != (xa : Int)) = true := by simp [h1]
          have HV := Lib.hid (HN.out 0 (by decide) h0 h1)
          clear h0 h1 HJ
          go_wp2
          go_ret
          exact ⟨by rw [HV.out]; rfl, HB.out⟩
    · by_cases h0 : pb = 0
      · have hn0 : (pb != 0) = false := by simp [h0]
        have HJ2 : Hid (∀ j, j < 2 → (⟨pa, pb, pc⟩ : Pat).at j = 0 ∨ (⟨pa, pb, pc⟩ : Pat).at j = (at3 ⟨xa, xb, xc⟩ j : Nat)) := Lib.hid (fun j hj => by
          by_cases e : j = 1
          · subst e; exact .inl h0
          · exact HJ.out j (by omega))
        clear h0 HJ
        go_wp2
        go_roundw
        case rel => exact ⟨2, by go_num, by omega, HJ2, by first | rfl | trivial⟩
        case measure => simp [intOf]
      · have hn0 : (pb != 0) = true := by simp [h0]
        by_cases h1 : pb = (xb : Int)
        · have hn1 : (pb != (xb : Int)) = false := by simp [h1]
          have HJ2 : Hid (∀ j, j < 2 → (⟨pa, pb, pc⟩ : Pat).at j = 0 ∨ (⟨pa, pb, pc⟩ : Pat).at j = (at3 ⟨xa, xb, xc⟩ j : Nat)) := Lib.hid (fun j hj => by
            by_cases e : j = 1
            · subst e; exact .inr h1
            · exact HJ.out j (by omega))
          clear h0 h1 HJ
          go_wp2
          go_roundw
          case rel => exact ⟨2, by go_num, by omega, HJ2, by first | rfl | trivial⟩
          case measure => simp [intOf]
        · have hn1 : (pb != (xb : Int)) = true := by simp [h1]
          have HV := Lib.hid (HN.out 1 (by decide) h0 h1)
          clear h0 h1 HJ
          go_wp2
          go_ret
          exact ⟨by rw [HV.out]; rfl, HB.out⟩
    · by_cases h0 : pc = 0
      · have hn0 : (pc != 0) = false := by simp [h0]
        have HJ2 : Hid (∀ j, j < 3 → (⟨pa, pb, pc⟩ : Pat).at j = 0 ∨ (⟨pa, pb, pc⟩ : Pat).at j = (at3 ⟨xa, xb, xc⟩ j : Nat)) := Lib.hid (fun j hj => by
          by_cases e : j = 2
          · subst e; exact .inl h0
          · exact HJ.out j (by omega))
        clear h0 HJ
        go_wp2
        go_roundw
        case rel => exact ⟨3, by go_num, by omega, HJ2, by first | rfl | trivial⟩
        case measure => simp [intOf]
      · have hn0 : (pc != 0) = true := by simp [h0]
        by_cases h1 : pc = (xc : Int)
        · have hn1 : (pc != (xc : Int)) = false := by simp [h1]
          have HJ2 : Hid (∀ j, j < 3 → (⟨pa, pb, pc⟩ : Pat).at j = 0 ∨ (⟨pa, pb, pc⟩ : Pat).at j = (at3 ⟨xa, xb, xc⟩ j : Nat)) := Lib.hid (fun j hj => by
            by_cases e : j = 2
            · subst e; exact .inr h1
            · exact HJ.out j (by omega))
          clear h0 h1 HJ
          go_wp2
          go_roundw
          case rel => exact ⟨3, by go_num, by omega, HJ2, by first | rfl | trivial⟩
          case measure => simp [intOf]
        · have hn1 : (pc != (xc : Int)) = true := by simp [h1]
          have HV := Lib.hid (HN.out 2 (by decide) h0 h1)
          clear h0 h1 HJ
          go_wp2
          go_ret
          exact ⟨by rw [HV.out]; rfl, HB.out⟩
    · have HV := Lib.hid (HY.out HJ.out)
      go_wp2
      go_ret
      exact ⟨by rw [HV.out]; rfl, HB.out⟩
/-- The closure that All hands to DeleteFunc; h: where the pattern lies. -/
def clV (h : Nat) : Value := .func (.func 53) #[] #[.pointer (some ⟨h, 0, none⟩)]
set_option maxHeartbeats 3200000 in
set_option maxRecDepth 100000 in
theorem clo_calls (p : Pat) (x : Ids) (h : Nat) (w : World) (hp : P3 w h 0 p) : Calls Tryz.prog 53 #[.agg (idsL x).toArray, .pointer (some ⟨h, 0, none⟩)] w fun e w' => e = .returned (.bool (!matchP p x)) ∧ Below w.heap.size w w' := by
  have hb : Below w.heap.size w (w.alloc (.cells (idsL x).toArray 40)) := bel_alloc (Below.refl _ _) _
  have hp2 := hp.below hb
  have hx := I3.new w x
  obtain ⟨w0, hw0⟩ : ∃ w0, w0 = w.alloc (.cells (idsL x).toArray 40) := ⟨_, rfl⟩
  rw [← hw0] at hb hp2 hx
  have HB := Lib.hid hb
  have HW : Hid (w.alloc (.cells (idsL x).toArray 40) = w0) := Lib.hid hw0.symm
  have HM := Lib.hid (matches_calls p x w0)
  have p0 := hp2 0 (by decide)
  have p1 := hp2 1 (by decide)
  have p2 := hp2 2 (by decide)
  have x0 := hx 0 (by decide)
  have x1 := hx 1 (by decide)
  have x2 := hx 2 (by decide)
  simp only [Nat.zero_add, Pat.at, at3] at p0 p1 p2 x0 x1 x2
  generalize matchP p x = v at *
  clear hb hp hp2 hx hw0
  obtain ⟨pa, pb, pc⟩ := p
  obtain ⟨xa, xb, xc⟩ := x
  unfold patL idsL at *
  dsimp only at *
  go_enter Tryz.func53, Tryz.ntmps53
  go_upto_region 1 with fail
  rw [HW.out]
  clear HW
  go_wp2_with fail
  refine HM.out.mono ?_
  rintro e w2 ⟨rfl, hb2⟩
  have HB2 := Lib.hid (bel_step HB.out hb2)
  clear hb2 HM
  go_wp2
  go_ret
  exact ⟨rfl, HB2.out⟩
/-- What IndexFunc answers: where the first stands that a pattern does not keep; -1. -/
def firstNot (f : Ids → Bool) (R : List Ids) : Int := if (R.takeWhile f).length < R.length then ((R.takeWhile f).length : Nat) else -1
theorem takeWhile_at {f : Ids → Bool} : ∀ (R : List Ids) (k : Nat) (h : k < R.length), (∀ i (hi : i < R.length), i < k → f R[i] = true) → f R[k] = false → (R.takeWhile f).length = k
  | [], k, h, _, _ => by simp at h
  | x :: R, 0, h, _, hn => by
    rw [List.takeWhile_cons]
    simp at hn
    simp [hn]
  | x :: R, k + 1, h, hy, hn => by
    have h0 := hy 0 (by simp) (by omega)
    simp at h0
    rw [List.takeWhile_cons, if_pos h0, List.length_cons, takeWhile_at R k (by simpa using h) (fun i hi hlt => by have := hy (i + 1) (by simp; omega) (by omega); rw [List.getElem_cons_succ] at this; exact this) (by rw [List.getElem_cons_succ] at hn; exact hn)]
theorem first_at {f : Ids → Bool} {R : List Ids} {k : Nat} (h : k < R.length) (hy : ∀ i (hi : i < R.length), i < k → f R[i] = true) (hn : f R[k] = false) : firstNot f R = k := by
  unfold firstNot
  rw [takeWhile_at R k h hy hn, if_pos h]
theorem first_none {f : Ids → Bool} {R : List Ids} (hy : ∀ i (hi : i < R.length), f R[i] = true) : firstNot f R = -1 := by
  have : R.takeWhile f = R := by
    have : ∀ R : List Ids, (∀ x ∈ R, f x = true) → R.takeWhile f = R := by
      intro R
      induction R with
      | nil => intro _; rfl
      | cons x R ih =>
        intro h
        rw [List.takeWhile_cons, if_pos (h x (by simp)), ih (fun z hz => h z (by simp [hz]))]
    exact this R fun x hx => by
      obtain ⟨i, hi, rfl⟩ := List.getElem_of_mem hx
      exact hy i hi
  unfold firstNot
  rw [this, if_neg (by omega)]
set_option maxHeartbeats 3200000 in
set_option maxRecDepth 100000 in
theorem index_calls (p : Pat) (R : List Ids) (L cap : Nat) (hL : R.length = L) (hLs : L ≤ 1000000) (g h : Nat) (W w : World) (hg : g < w.heap.size) (hS : IR W g R w) (hp : P3 w h 0 p) :
    Calls Tryz.prog 97 #[.slice (some ⟨g, 0, none⟩) L cap, clV h] w fun e w' => e = .returned (.int .i64 (firstNot (matchP p) R)) ∧ Below w.heap.size w w' := by
  have HL : Hid (R.length = L) := Lib.hid hL
  have HS := Lib.hid hS
  have HP := Lib.hid hp
  have HG := Lib.hid hg
  clear hL hS hp hg
  unfold clV
  go_enter Tryz.func97, Tryz.ntmps97
  go_wp2
  go_loopw [8] (fun vk wr => ∃ k : Nat, vk = .int .i64 k ∧ k ≤ L ∧ Hid ((∀ i (hi : i < R.length), i < k → matchP p R[i] = true) ∧ Below w.heap.size w wr)) (fun vk _ => L - (intOf vk).toNat)
  case atStart => exact ⟨0, rfl, by omega, Lib.hid ⟨fun i hi h => absurd h (by omega), Below.refl _ _⟩⟩
  case round =>
    obtain ⟨k, rfl, hkL, HI⟩ := hrel
    by_cases hlt : k < L
    · have hd : decide (k < L) = true := decide_eq_true hlt
      have ik : (k : Int) < (L : Int) := by omega
      have hcx := HS.out.cells k (by rw [HL.out]; exact hlt)
      have hcx2 := hcx.below HI.out.2
      obtain ⟨x, hx⟩ : ∃ x, x = R[k]'(by rw [HL.out]; exact hlt) := ⟨_, rfl⟩
      rw [← hx] at hcx2
      have HC := Lib.hid (clo_calls p x h wr (HP.out.below HI.out.2))
      obtain ⟨v, hv⟩ : ∃ v, v = matchP p x := ⟨_, rfl⟩
      rw [← hv] at HC
      have x0 := hcx2 0 (by decide)
      have x1 := hcx2 1 (by decide)
      have x2 := hcx2 2 (by decide)
      simp only [Nat.add_zero, at3] at x0 x1 x2
      clear hcx
      have HB := Lib.hid HI.out.2
      have HStep : Hid (v = true → ∀ i (hi : i < R.length), i < k + 1 → matchP p R[i] = true) := Lib.hid (fun hvt i hi hlt => by
        by_cases e : i = k
        · subst e; rw [← hx, ← hv]; exact hvt
        · exact HI.out.1 i hi (by omega))
      have HEnd : Hid (v = false → firstNot (matchP p) R = (k : Nat)) := Lib.hid (fun hvf => first_at (by rw [HL.out]; exact hlt) HI.out.1 (by rw [← hx, ← hv]; exact hvf))
      clear hx hv hcx2 HI
      obtain ⟨xa, xb, xc⟩ := x
      unfold idsL at HC
      dsimp only at *
      cases v
      · have HV := Lib.hid (HEnd.out rfl)
        clear HEnd HStep
        go_wp2_with fail
        refine HC.out.mono ?_
        rintro e w2 ⟨rfl, hb2⟩
        have HB2 := Lib.hid (bel_step HB.out hb2)
        clear hb2 HC
        go_wp2
        go_ret
        exact ⟨by rw [HV.out]; rfl, HB2.out⟩
      · have HV := Lib.hid (HStep.out rfl)
        clear HEnd HStep
        go_wp2_with fail
        refine HC.out.mono ?_
        rintro e w2 ⟨rfl, hb2⟩
        have HB2 := Lib.hid (bel_step HB.out hb2)
        clear hb2 HC
        go_wp2
        go_roundw
        case rel => exact ⟨k + 1, by go_num, by omega, Lib.hid ⟨HV.out, HB2.out⟩⟩
        case measure => simp [intOf]; omega
    · have hd : decide (k < L) = false := decide_eq_false hlt
      have HV : Hid (firstNot (matchP p) R = -1) := Lib.hid (first_none fun i hi => HI.out.1 i hi (by have := HL.out; omega))
      have HB := Lib.hid HI.out.2
      clear HI
      go_wp2
      go_ret
      exact ⟨by rw [HV.out]; rfl, HB.out⟩
theorem first_cases (f : Ids → Bool) (R : List Ids) : (firstNot f R = -1 ∧ R.filter f = R) ∨ ∃ k : Nat, ∃ h : k < R.length, firstNot f R = k ∧ (∀ i (hi : i < R.length), i < k → f R[i] = true) ∧ f R[k] = false := by
  by_cases h : (R.takeWhile f).length < R.length
  · right
    refine ⟨(R.takeWhile f).length, h, by unfold firstNot; rw [if_pos h], fun i hi hlt => ?_, ?_⟩
    · have hm : (R.takeWhile f)[i] ∈ R.takeWhile f := List.getElem_mem hlt
      have e : (R.takeWhile f)[i] = R[i] := by
        have := List.takeWhile_prefix (p := f) (l := R)
        obtain ⟨t, ht⟩ := this
        have h1 : R[i]? = (R.takeWhile f)[i]? := by
          conv => lhs; rw [← ht]
          rw [List.getElem?_append_left hlt]
        rw [List.getElem?_eq_getElem hi, List.getElem?_eq_getElem hlt] at h1
        exact (Option.some.inj h1).symm
      rw [← e]
      exact List.all_eq_true.1 List.all_takeWhile _ hm
    · have : ∀ (R : List Ids) (h : (R.takeWhile f).length < R.length), f (R[(R.takeWhile f).length]'h) = false := by
        intro R
        induction R with
        | nil => intro h; simp at h
        | cons x R ih =>
          intro h
          by_cases hx : f x = true
          · have e : (x :: R).takeWhile f = x :: R.takeWhile f := by rw [List.takeWhile_cons, if_pos hx]
            have h' : (R.takeWhile f).length < R.length := by rw [e] at h; simpa using h
            have := ih h'
            simp only [e, List.length_cons, List.getElem_cons_succ]
            exact this
          · have e : (x :: R).takeWhile f = [] := by rw [List.takeWhile_cons, if_neg hx]
            simp only [e, List.length_nil, List.getElem_cons_zero]
            simpa using hx
      exact this R h
  · left
    have e : R.takeWhile f = R := (List.takeWhile_prefix f).eq_of_length (by have := (List.takeWhile_prefix f (l := R)).length_le; omega)
    refine ⟨by unfold firstNot; rw [if_neg h], List.filter_eq_self.2 fun x hx => ?_⟩
    rw [← e] at hx
    exact List.all_eq_true.1 List.all_takeWhile _ hx
set_option maxHeartbeats 25600000 in
set_option maxRecDepth 100000 in
theorem delete_calls (p : Pat) (R : List Ids) (L cap : Nat) (hL : R.length = L) (hc : L ≤ cap) (hLs : L ≤ 1000000) (hcM : cap ≤ maxLen) (g h : Nat) (W w : World) (hg : g < w.heap.size) (hne : g ≠ h) (hS : IR W g R w) (hp : P3 w h 0 p) :
    Calls Tryz.prog 51 #[.slice (some ⟨g, 0, none⟩) L cap, clV h] w fun e w' => e = .returned (.slice (some ⟨g, 0, none⟩) (R.filter (matchP p)).length cap) ∧ IR W g (R.filter (matchP p)) w' ∧ w.heap.size ≤ w'.heap.size := by
  have HI := Lib.hid (index_calls p R L cap hL hLs g h W w hg hS hp)
  have HL : Hid (R.length = L) := Lib.hid hL
  have HS := Lib.hid hS
  have HP := Lib.hid hp
  have HG := Lib.hid hg
  have HNe := Lib.hid hne
  have HF := Lib.hid (first_cases (matchP p) R)
  clear hL hS hp hg hne
  unfold clV at *
  go_enter Tryz.func51, Tryz.ntmps51
  rcases HF.out with ⟨hf, hall⟩ | ⟨k, hkR, hf, hyes, hno⟩
  · rw [hf] at HI
    have HA := Lib.hid hall
    clear hf hall HF
    rw [HA.out]
    go_wp2_with fail
    refine HI.out.mono ?_
    rintro e w2 ⟨rfl, hb2⟩
    have HS2 := Lib.hid (HS.out.below HG.out hb2)
    have HZ := Lib.hid hb2.size
    clear hb2 HI
    go_wp2
    go_ret
    exact ⟨by rw [HL.out]; rfl, HS2.out, HZ.out⟩
  rw [hf] at HI
  have hkL : k < L := by rw [← HL.out]; exact hkR
  have hk1 : ((k : Int) == -1) = false := by rw [beq_eq_false_iff_ne]; omega
  have HI0 : Hid (FI (matchP p) R R L k (k + 1)) := Lib.hid (FI.start HL.out hkL (fun i hi hlt => hyes i hi hlt) hno)
  clear hf hyes hno HF hkR
  go_wp2_with fail
  refine HI.out.mono ?_
  rintro e w2 ⟨rfl, hb2⟩
  have HS2 := Lib.hid (HS.out.below HG.out hb2)
  have HP2 := Lib.hid (HP.out.below hb2)
  have HG2 : Hid (g < w2.heap.size ∧ w.heap.size ≤ w2.heap.size) := Lib.hid ⟨Nat.lt_of_lt_of_le HG.out hb2.size, hb2.size⟩
  clear hb2 HI HS HP HG
  go_wp2
  go_loopw [5, 6] (fun vk vj wr => ∃ (k j : Nat) (l' : List Ids), vk = .int .i64 k ∧ vj = .int .i64 j ∧ k < j ∧ j ≤ L ∧ Hid (FI (matchP p) R l' L k j ∧ IR W g l' wr ∧ P3 wr h 0 p ∧ g < wr.heap.size ∧ w.heap.size ≤ wr.heap.size)) (fun _ vj _ => L - (intOf vj).toNat)
  case atStart => exact ⟨k, k + 1, R, rfl, by go_num, by omega, by omega, Lib.hid ⟨HI0.out, HS2.out, HP2.out, HG2.out.1, HG2.out.2⟩⟩
  case round =>
    obtain ⟨k1, j, l', rfl, rfl, hkj, hjL, HR⟩ := hrel
    clear HI0 HS2 HP2 HG2 hk1
    by_cases hlt : j < L
    · have hd : decide (j < L) = true := decide_eq_true hlt
      have ij : (j : Int) < (L : Int) := by omega
      have ik : (k1 : Int) < (L : Int) := by omega
      obtain ⟨x, hx⟩ : ∃ x, x = R[j]'(by rw [HL.out]; exact hlt) := ⟨_, rfl⟩
      have hcx : I3 wr g (j * 3) x := HR.out.2.1.at (by rw [HR.out.1.tail j (Nat.le_refl _), hx]; exact List.getElem?_eq_getElem _)
      have hb : Below wr.heap.size wr (wr.alloc (.cells (idsL x).toArray 40)) := bel_alloc (Below.refl _ _) _
      have hnx := I3.new wr x
      have hpx := HR.out.2.2.1.below hb
      have hsx := HR.out.2.1.below HR.out.2.2.2.1 hb
      have x0 := hcx 0 (by decide)
      have x1 := hcx 1 (by decide)
      have x2 := hcx 2 (by decide)
      simp only [Nat.add_zero, at3] at x0 x1 x2
      obtain ⟨w0, hw0⟩ : ∃ w0, w0 = wr.alloc (.cells (idsL x).toArray 40) := ⟨_, rfl⟩
      rw [← hw0] at hb hnx hpx hsx
      have HWX : Hid (wr.alloc (.cells (idsL x).toArray 40) = w0) := Lib.hid hw0.symm
      have HC := Lib.hid (clo_calls p x h w0 hpx)
      obtain ⟨v, hv⟩ : ∃ v, v = matchP p x := ⟨_, rfl⟩
      rw [← hv] at HC
      have HDrop : Hid (v = false → FI (matchP p) R l' L k1 (j + 1)) := Lib.hid (fun e => HR.out.1.drop HL.out hlt (by rw [← hx, ← hv]; exact e))
      have HPut : Hid (v = true → FI (matchP p) R (l'.set k1 x) L (k1 + 1) (j + 1)) := Lib.hid (fun e => by
        have := HR.out.1.put HL.out hkj hlt (by rw [← hx, ← hv]; exact e)
        rw [← hx] at this
        exact this)
      have hsz0 : wr.heap.size < w0.heap.size := by rw [hw0]; simp
      have HState : Hid (IR W g l' w0 ∧ P3 w0 h 0 p ∧ g < w0.heap.size ∧ w.heap.size ≤ w0.heap.size ∧ I3 w0 wr.heap.size 0 x ∧ wr.heap.size ≠ g) := Lib.hid ⟨hsx, hpx, by have := HR.out.2.2.2.1; omega, by have := HR.out.2.2.2.2; omega, hnx, by have := HR.out.2.2.2.1; omega⟩
      have HLen : Hid (l'.length = L) := Lib.hid HR.out.1.len
      have y0 := hnx 0 (by decide)
      have y1 := hnx 1 (by decide)
      have y2 := hnx 2 (by decide)
      simp only [Nat.zero_add, at3] at y0 y1 y2
      have HXc := Lib.hid hnx
      clear hx hv hcx hb hnx hpx hsx hw0 HR
      obtain ⟨xa, xb, xc⟩ := x
      unfold idsL at HC HWX
      dsimp only at *
      cases v
      · have HV := Lib.hid (HDrop.out rfl)
        clear HDrop HPut
        go_upto_region 8 with fail
        rw [HWX.out]
        clear x0 x1 x2 HWX
        go_wp2_with fail
        refine HC.out.mono ?_
        rintro e w3 ⟨rfl, hb3⟩
        have HN : Hid (IR W g l' w3 ∧ P3 w3 h 0 p ∧ g < w3.heap.size ∧ w.heap.size ≤ w3.heap.size) := Lib.hid ⟨HState.out.1.below HState.out.2.2.1 hb3, HState.out.2.1.below hb3, Nat.lt_of_lt_of_le HState.out.2.2.1 hb3.size, Nat.le_trans HState.out.2.2.2.1 hb3.size⟩
        clear hb3 HC HState y0 y1 y2 HXc
        go_wp2
        go_roundw
        case rel => exact ⟨k1, j + 1, l', rfl, by go_num, by omega, by omega, Lib.hid ⟨HV.out, HN.out.1, HN.out.2.1, HN.out.2.2.1, HN.out.2.2.2⟩⟩
        case measure => simp [intOf]; omega
      · have HV := Lib.hid (HPut.out rfl)
        clear HDrop HPut
        go_upto_region 8 with fail
        rw [HWX.out]
        clear x0 x1 x2 HWX
        go_wp2_with fail
        refine HC.out.mono ?_
        rintro e w3 ⟨rfl, hb3⟩
        have hk1l : k1 < l'.length := by rw [HLen.out]; omega
        have hs3 := HState.out.1.below HState.out.2.2.1 hb3
        have HN : Hid (P3 w3 h 0 p ∧ g < w3.heap.size ∧ w.heap.size ≤ w3.heap.size) := Lib.hid ⟨HState.out.2.1.below hb3, Nat.lt_of_lt_of_le HState.out.2.2.1 hb3.size, Nat.le_trans HState.out.2.2.2.1 hb3.size⟩
        have hx3 := HXc.out.below hb3
        have a0 := hx3 0 (by decide)
        have a1 := hx3 1 (by decide)
        have a2 := hx3 2 (by decide)
        simp only [Nat.zero_add, at3] at a0 a1 a2
        have f0 := hs3.free (k1 * 3 + 0) (by omega)
        have f1 := hs3.free (k1 * 3 + 1) (by omega)
        have f2 := hs3.free (k1 * 3 + 2) (by omega)
        have hz := hs3.cells k1 hk1l
        obtain ⟨z, hze⟩ : ∃ z, z = l'[k1] := ⟨_, rfl⟩
        rw [← hze] at hz
        have z0 := hz 0 (by decide)
        have z1 := hz 1 (by decide)
        have z2 := hz 2 (by decide)
        simp only [Nat.add_zero, at3] at z0 z1 z2 f0
        have HSW := Lib.hid (hs3.set k1 hk1l ⟨xa, xb, xc⟩)
        unfold put3 at HSW
        dsimp only at HSW
        have HPW : Hid (∀ q v, P3 (w3.setCell ⟨g, q, none⟩ v) h 0 p) := Lib.hid (fun q v => HN.out.1.moved (Below.heap_setCell _ _ _ _ (fun e => HNe.out e.symm)))
        clear hb3 HC HState y0 y1 y2 HXc hx3 hs3 hz hze hk1l
        go_wp2
        go_roundw
        case rel => exact ⟨k1 + 1, j + 1, l'.set k1 ⟨xa, xb, xc⟩, by go_num, by go_num, by omega, by omega, Lib.hid ⟨HV.out, HSW.out, by refine P3.moved HN.out.1 ?_; iterate 3 (first | rw [Below.heap_setCell _ _ _ _ (fun e => HNe.out e.symm)]), by simpa using HN.out.2.1, by simpa using HN.out.2.2⟩⟩
        case measure => simp [intOf]; omega
    · have hd : decide (j < L) = false := decide_eq_false hlt
      obtain rfl : j = L := by omega
      have HEnd : Hid (R.filter (matchP p) = l'.take k1) := Lib.hid (by
        have := HR.out.1.head
        rw [List.take_of_length_le (l := R) (by rw [HL.out]; exact Nat.le_refl _)] at this
        exact this.symm)
      obtain ⟨n2, hn2⟩ : ∃ n2, n2 = j - k1 := ⟨_, rfl⟩
      obtain ⟨c3, hc3⟩ : ∃ c3, c3 = cap - k1 := ⟨_, rfl⟩
      have HSl2 : ∀ w, (Instr.slice 48 (.slice (some ⟨g, 0, none⟩) j cap) (some (.int .i64 (k1 : Int))) none none).run Tryz.prog w = .ok (.slice (some ⟨g, k1 * 3, none⟩) n2 c3) w := fun w => by rw [hn2, hc3]; exact run_cutk w g j cap k1 hkj hc
      have HSl3 : ∀ w, (Instr.slice 48 (.slice (some ⟨g, 0, none⟩) j cap) none (some (.int .i64 (k1 : Int))) none).run Tryz.prog w = .ok (.slice (some ⟨g, 0, none⟩) k1 cap) w := fun w => run_takek w g j cap k1 (by omega) (by omega) hc
      have HLl : l'.length = j := HR.out.1.len
      obtain ⟨Z, hZ⟩ : ∃ Z, Z = (Builtin.zeroCells zeroV.cells n2).toList := ⟨_, rfl⟩
      have HClr : ∀ ty, (Builtin.clear_ #[48] ty #[.slice (some ⟨g, k1 * 3, none⟩) n2 c3]).run Tryz.prog wr = .ok (.tuple #[]) (wr.setCells g (k1 * 3) Z) := fun ty => by
        rw [hZ]
        refine run_clear wr ty g (k1 * 3) n2 c3 (by omega) (fun i hi => ?_) (fun i hi => ?_)
        · obtain ⟨q, d, hd, he⟩ : ∃ q d, d < 3 ∧ k1 * 3 + i = q * 3 + d := ⟨(k1 * 3 + i) / 3, (k1 * 3 + i) % 3, Nat.mod_lt _ (by omega), by omega⟩
          rw [he]
          have hq : q < l'.length := by omega
          rw [HR.out.2.1.cells q hq d hd]
          rfl
        · exact HR.out.2.1.free _ (by omega)
      have HV : Hid ((R.filter (matchP p)).length = k1 ∧ IR W g (R.filter (matchP p)) (wr.setCells g (k1 * 3) Z) ∧ w.heap.size ≤ (wr.setCells g (k1 * 3) Z).heap.size) := Lib.hid (by
        have hlen : (R.filter (matchP p)).length = k1 := by rw [HEnd.out, List.length_take]; omega
        have hgr := TermW.setCells_grown g Z (k1 * 3) wr
        refine ⟨hlen, ⟨HR.out.2.1.grown.trans hgr, fun i hi => ?_, fun i hi => by rw [TermW.setCells_frozen]; exact HR.out.2.1.free i (by omega)⟩, Nat.le_trans HR.out.2.2.2.2 hgr.size⟩
        have hi2 : i < l'.length := by omega
        have hcell := HR.out.2.1.cells i hi2
        have he : (R.filter (matchP p))[i] = l'[i] := by
          have : ∀ (A B : List Ids) (e : A = B) (h : i < A.length) (h' : i < B.length), A[i] = B[i] := by rintro A B rfl h h'; rfl
          rw [this _ _ HEnd.out hi (by rw [← HEnd.out]; exact hi), List.getElem_take]
        rw [he]
        exact fun d hd => (TermW.setCells_far g Z (k1 * 3) wr _ (by omega)).trans (hcell d hd))
      clear hn2 hc3 hZ HEnd HR HLl
      go_wp2
      go_ret
      exact ⟨by rw [HV.out.1]; rfl, HV.out.2⟩
end Go.Proofs.YtnplommdgfgboaaGreatDoor.IdsAll
set_option linter.unusedVariables false
set_option linter.unusedSimpArgs false
namespace Go.Proofs.YtnplommdgfgboaaGreatDoor.IdsAll
open Go.RowKit Go.Lib Go.Proofs.YtnplommdgfgboaaGreatDoor.B Go.Proofs.YtnplommdgfgboaaGreatDoor.Rd Go.Proofs.YtnplommdgfgboaaGreatDoor.OrdG Go.Proofs.YtnplommdgfgboaaGreatDoor.StoreW Go.Proofs.YtnplommdgfgboaaGreatDoor.IdsCmp Go.Proofs.YtnplommdgfgboaaGreatDoor.IdsW Go.Proofs.YtnplommdgfgboaaGreatDoor.Clones
set_option maxRecDepth 100000 in
theorem index_nil (A : Option Addr) (c h : Nat) (w : World) :
    Calls Tryz.prog 97 #[.slice A 0 c, clV h] w fun e w' => e = .returned (.int .i64 (-1)) ∧ w = w' := by
  unfold clV
  go_enter Tryz.func97, Tryz.ntmps97
  go_wp2
  go_loopw [8] (fun vk wr => vk = .int .i64 0 ∧ w = wr) (fun vk _ => 0)
  case atStart => exact ⟨rfl, rfl⟩
  case round =>
    obtain ⟨rfl, rfl⟩ := hrel
    go_wp2
    go_ret
    exact ⟨rfl, rfl⟩
set_option maxRecDepth 100000 in
theorem delete_nil (A : Option Addr) (c h : Nat) (w : World) :
    Calls Tryz.prog 51 #[.slice A 0 c, clV h] w fun e w' => e = .returned (.slice A 0 c) ∧ w = w' := by
  have HI := Lib.hid (index_nil A c h w)
  unfold clV at *
  go_enter Tryz.func51, Tryz.ntmps51
  go_wp2_with fail
  refine HI.out.mono ?_
  rintro e w2 ⟨rfl, rfl⟩
  go_wp2
  go_ret
  exact ⟨rfl, rfl⟩
set_option maxHeartbeats 3200000 in
set_option maxRecDepth 100000 in
theorem all_calls (p : Pat) (I : List Ids) (hI : I.length ≤ 100) (g : Nat) (w : World) (ok : Nat → Prop) (h : RingAt w ok g I) :
    Calls Tryz.prog 26 #[.pointer (some ⟨g, 0, none⟩), .agg (patL p).toArray] w fun e w' => (∃ A c, e = .returned (.slice A (I.filter (matchP p)).length c) ∧ idsK.sl.M w' (fun k => w.heap.size ≤ k ∧ k < w'.heap.size) (I.filter (matchP p)) [.slice A (I.filter (matchP p)).length c]) ∧ Below w.heap.size w w' := by
  obtain ⟨_, _, A, c, hg, hM⟩ := h
  have hb : Below w.heap.size w (w.alloc (.cells (patL p).toArray 40)) := bel_alloc (Below.refl _ _) _
  have hp := P3.new w p
  obtain ⟨w0, hw0⟩ : ∃ w0, w0 = w.alloc (.cells (patL p).toArray 40) := ⟨_, rfl⟩
  rw [← hw0] at hb hp
  have hz0 : w0.heap.size = w.heap.size + 1 := by rw [hw0]; simp
  have HWX : Hid (w.alloc (.cells (patL p).toArray 40) = w0) := Lib.hid hw0.symm
  have hM0 := Kd.M_bound (Kd.M_below (Kd.M_bound hM) hb)
  have HFit : Hid (∀ x ∈ I, FitsI x) := Lib.hid (by
    obtain ⟨A', c', he, _, _, _, hrow⟩ := hM
    intro x hx
    obtain ⟨i, hi, rfl⟩ := List.getElem_of_mem hx
    obtain ⟨b, off, _, _, _, hcells⟩ := Kd.row_addr hrow (by omega)
    obtain ⟨cs, ⟨_, hf⟩, _⟩ := hcells i hi
    exact hf)
  have HC := Lib.hid (clone_ids_calls I A c w0 (idsK.sl.mono (fun _ _ _ => trivial) hM0) (by omega))
  have hg0 : w0.cell? ⟨g, 3, none⟩ = some (.slice A I.length c) := (hb.cell (p := ⟨g, 3, none⟩) (cell_lt hg)).trans hg
  have HB := Lib.hid hb
  have HP := Lib.hid hp
  have HZ := Lib.hid hz0
  have hmf : ∀ (fn : Fn) (first cap : Array Value) (w : World), (Instr.makeFunc fn first cap).run Tryz.prog w = .ok (.func fn first cap) w := fun _ _ _ _ => rfl
  clear hM hb hp hw0 hz0 hM0 hg
  unfold patL at HWX
  unfold patL
  go_enter Tryz.func26, Tryz.ntmps26
  go_upto_region 1 with fail
  rw [HWX.out]
  clear HWX
  go_wp2_with fail
  refine HC.out.mono ?_
  rintro e w1 ⟨⟨v, rfl, ho⟩, hb⟩
  have HB1 := Lib.hid (bel_step HB.out hb)
  have HP1 := Lib.hid (HP.out.below hb)
  have HZ1 : Hid (w.heap.size < w1.heap.size) := Lib.hid (by have := hb.size; have := HZ.out; omega)
  clear hb HC hg0
  by_cases h0 : I.length = 0
  · obtain rfl : I = [] := List.eq_nil_of_length_eq_zero h0
    obtain ⟨A1, c1, rfl, h1, h2⟩ := Kd.own_slice ho
    have HD := Lib.hid (delete_nil A1 c1 w.heap.size w1)
    have HO : Hid (idsK.sl.M w1 (fun k => w.heap.size ≤ k ∧ k < w1.heap.size) [] [.slice A1 0 c1]) := Lib.hid ⟨A1, c1, rfl, Nat.zero_le _, ⟨Nat.zero_le _, by
      obtain ⟨A', c', he, _, ⟨_, h5⟩, _⟩ := (Kd.own_sl (ok := TT) (ok' := TT) ho (fun _ _ => trivial) (fun _ _ => trivial))
      simp at he
      omega⟩, h2, Kd.row_nil _ _ _ _⟩
    unfold clV at HD
    simp only [List.length_nil, List.filter_nil] at *
    clear ho h1 h2 h0
    go_wp2_with fail
    refine HD.out.mono ?_
    rintro e w2 ⟨rfl, rfl⟩
    go_wp2
    go_ret
    exact ⟨⟨A1, c1, rfl, HO.out⟩, HB1.out⟩
  · obtain ⟨gr, cap, rfl, hbase, hglt, hcap, hcm, hir⟩ := IR.of_own ho (by omega)
    have hne : gr ≠ w.heap.size := by have := HZ.out; omega
    have HD := Lib.hid (delete_calls p I I.length cap rfl hcap (by omega) hcm gr w.heap.size w1 w1 hglt hne hir HP1.out)
    have HG : Hid (w.heap.size ≤ gr ∧ gr < w1.heap.size ∧ I.length ≤ cap ∧ cap ≤ maxLen) := Lib.hid ⟨by have := HZ.out; omega, hglt, hcap, hcm⟩
    have HLe : Hid ((I.filter (matchP p)).length ≤ I.length) := Lib.hid (List.length_filter_le _ _)
    have HFf : Hid (∀ x ∈ I.filter (matchP p), FitsI x) := Lib.hid (fun x hx => HFit.out x (List.mem_filter.1 hx).1)
    unfold clV at HD
    obtain ⟨F, hF⟩ : ∃ F, F = I.filter (matchP p) := ⟨_, rfl⟩
    rw [← hF] at HD HLe HFf
    have HFe := Lib.hid hF
    clear hF
    clear ho hbase hglt hcap hcm hir hne h0
    go_wp2_with fail
    refine HD.out.mono ?_
    rintro e w2 ⟨rfl, hir, hsz⟩
    have HB2 : Hid (Below w.heap.size w w2) := Lib.hid (HB1.out.grown hir.grown (by have := HZ1.out; omega) (fun j hj => by have := HG.out; cases hj; omega))
    have HO : Hid (idsK.sl.M w2 (fun k => w.heap.size ≤ k ∧ k < w2.heap.size) F [.slice (some ⟨gr, 0, none⟩) F.length cap]) := Lib.hid (hir.sl HFf.out (by have := HLe.out; omega) (by have := HG.out; have := HLe.out; omega) HG.out.2.2.2 _ ⟨HG.out.1, by have := HG.out; omega⟩)
    clear hir hsz HD
    go_wp2
    go_ret
    rw [← HFe.out]
    exact ⟨⟨_, _, rfl, HO.out⟩, HB2.out⟩
set_option maxHeartbeats 3200000 in
set_option maxRecDepth 100000 in
theorem rlen_calls (I : List Ids) (hI : I.length ≤ 100) (g : Nat) (w : World) (ok : Nat → Prop) (h : RingAt w ok g I) :
    Calls Tryz.prog 23 #[.pointer (some ⟨g, 0, none⟩)] w fun e w' => e = .returned (.int .i64 (I.length : Nat)) ∧ Below w.heap.size w w' := by
  have HA := Lib.hid (all_calls anyP I hI g w ok h)
  rw [filter_any] at HA
  unfold patL anyP at HA
  clear h
  go_enter Tryz.func23, Tryz.ntmps23
  go_wp2_with fail
  refine HA.out.mono ?_
  rintro e w2 ⟨⟨A, c, rfl, _⟩, hb⟩
  have HB := Lib.hid hb
  clear hb HA
  go_wp2
  go_ret
  exact ⟨rfl, HB.out⟩
end Go.Proofs.YtnplommdgfgboaaGreatDoor.IdsAll
set_option linter.unusedVariables false
set_option linter.unusedSimpArgs false
namespace Go.Proofs.YtnplommdgfgboaaGreatDoor.CrcWalk
open Go.RowKit Go.Proofs.YtnplommdgfgboaaGreatDoor.CrcPure Go.Proofs.YtnplommdgfgboaaGreatDoor.B
end Go.Proofs.YtnplommdgfgboaaGreatDoor.CrcWalk
set_option linter.unusedVariables false
set_option linter.unusedSimpArgs false
namespace Go.Proofs.YtnplommdgfgboaaGreatDoor.CrcLaws
open Go.RowKit Go.Proofs.YtnplommdgfgboaaGreatDoor.CrcPure Go.Proofs.YtnplommdgfgboaaGreatDoor.B Go.Proofs.YtnplommdgfgboaaGreatDoor.CrcWalk
end Go.Proofs.YtnplommdgfgboaaGreatDoor.CrcLaws
set_option linter.unusedVariables false
set_option linter.unusedSimpArgs false
namespace Go.Proofs.YtnplommdgfgboaaGreatDoor.BoxWalk
open Go.RowKit Go.Proofs.YtnplommdgfgboaaGreatDoor.CrcPure Go.Proofs.YtnplommdgfgboaaGreatDoor.BoxPure Go.Proofs.YtnplommdgfgboaaGreatDoor.B Go.Proofs.YtnplommdgfgboaaGreatDoor.CrcWalk Go.Proofs.YtnplommdgfgboaaGreatDoor.CrcLaws
abbrev T : Nat → Prop := fun _ => True
end Go.Proofs.YtnplommdgfgboaaGreatDoor.BoxWalk
set_option linter.unusedVariables false
set_option linter.unusedSimpArgs false
namespace Go.Proofs.YtnplommdgfgboaaGreatDoor.BoxPack
open Go.RowKit Go.Proofs.YtnplommdgfgboaaGreatDoor.CrcPure Go.Proofs.YtnplommdgfgboaaGreatDoor.BoxPure Go.Proofs.YtnplommdgfgboaaGreatDoor.B Go.Proofs.YtnplommdgfgboaaGreatDoor.CrcWalk Go.Proofs.YtnplommdgfgboaaGreatDoor.CrcLaws Go.Proofs.YtnplommdgfgboaaGreatDoor.BoxWalk
/-- The state of Pack's loop behind the copy of a section. -/
structure PSt (w W : World) (v : Value) (b : List UInt8) (g : Nat) (id : Int) (body : List UInt8) (u : Value) : Prop where
  own : byteK.own 5 W w.heap.size T v b
  bel : Below w.heap.size w W
  c0 : W.cell? ⟨g, 0, none⟩ = some (.int .i64 id)
  c1 : W.cell? ⟨g, 1, none⟩ = some u
  ne : some g ≠ v.ownBlock
  body : byteK.sl.M W (fun k => k < w.heap.size) body [u]
namespace PSt
variable {w W W' : World} {v v1 : Value} {b ys body : List UInt8} {g : Nat} {id : Int} {u : Value}
theorem call (h : PSt w W v b g id body u) (hb : Below W.heap.size W W') : PSt w W' v b g id body u :=
  ⟨Kd.own_below h.own hb, bel_step h.bel hb, cell_same h.c0 (hb.block _ (cell_lt h.c0)), cell_same h.c1 (hb.block _ (cell_lt h.c1)), h.ne, Kd.M_below h.body hb⟩
end PSt
end Go.Proofs.YtnplommdgfgboaaGreatDoor.BoxPack
set_option linter.unusedVariables false
set_option linter.unusedSimpArgs false
namespace Go.Proofs.YtnplommdgfgboaaGreatDoor.Encode
open Go.RowKit Go.Lib Go.Proofs.YtnplommdgfgboaaGreatDoor.B Go.Proofs.YtnplommdgfgboaaGreatDoor.Rd Go.Proofs.YtnplommdgfgboaaGreatDoor.TermPure Go.Proofs.YtnplommdgfgboaaGreatDoor.LinesPure Go.Proofs.YtnplommdgfgboaaGreatDoor.Tri Go.Proofs.YtnplommdgfgboaaGreatDoor.SortP Go.Proofs.YtnplommdgfgboaaGreatDoor.OrdG Go.Proofs.YtnplommdgfgboaaGreatDoor.TermW Go.Proofs.YtnplommdgfgboaaGreatDoor.Cmp Go.Proofs.YtnplommdgfgboaaGreatDoor.StoreW Go.Proofs.YtnplommdgfgboaaGreatDoor.Clones Go.Proofs.YtnplommdgfgboaaGreatDoor.Search Go.Proofs.YtnplommdgfgboaaGreatDoor.FrontP Go.Proofs.YtnplommdgfgboaaGreatDoor.FrontW Go.Proofs.YtnplommdgfgboaaGreatDoor.PackW Go.Proofs.YtnplommdgfgboaaGreatDoor.StoreP Go.Proofs.YtnplommdgfgboaaGreatDoor.IdsCmp Go.Proofs.YtnplommdgfgboaaGreatDoor.IdsW Go.Proofs.YtnplommdgfgboaaGreatDoor.IdsAll
end Go.Proofs.YtnplommdgfgboaaGreatDoor.Encode
set_option linter.unusedVariables false
set_option linter.unusedSimpArgs false
namespace Go.Proofs.YtnplommdgfgboaaGreatDoor.SCommon
open Go.RowKit Go.Lib Go.Proofs.YtnplommdgfgboaaGreatDoor.B Go.Proofs.YtnplommdgfgboaaGreatDoor.Rd Go.Proofs.YtnplommdgfgboaaGreatDoor.TermPure Go.Proofs.YtnplommdgfgboaaGreatDoor.LinesPure Go.Proofs.YtnplommdgfgboaaGreatDoor.Tri Go.Proofs.YtnplommdgfgboaaGreatDoor.SortP Go.Proofs.YtnplommdgfgboaaGreatDoor.OrdG Go.Proofs.YtnplommdgfgboaaGreatDoor.Print Go.Proofs.YtnplommdgfgboaaGreatDoor.Cmp Go.Proofs.YtnplommdgfgboaaGreatDoor.Long Go.Proofs.YtnplommdgfgboaaGreatDoor.Long11 Go.Proofs.YtnplommdgfgboaaGreatDoor.StoreW Go.Proofs.YtnplommdgfgboaaGreatDoor.StoreM Go.Proofs.YtnplommdgfgboaaGreatDoor.Env Go.Proofs.YtnplommdgfgboaaGreatDoor.ParseP Go.Proofs.YtnplommdgfgboaaGreatDoor.Parse Go.Proofs.YtnplommdgfgboaaGreatDoor.ParseOk Go.Proofs.YtnplommdgfgboaaGreatDoor.SPrint Go.Proofs.YtnplommdgfgboaaGreatDoor.StoreP Go.Proofs.YtnplommdgfgboaaGreatDoor.Encode Go.Proofs.YtnplommdgfgboaaGreatDoor.SortW
/-- A text that triples make, read. -/
theorem load_print (l : List Triple) (hv : Valid l) (hl : l.length ≤ 100) (x : List UInt8) (hx : x = l.flatMap lineN) (hs : x.length ≤ 20000) (w : World) (he : Env w) :
    Calls Tryz.prog 15 #[.string (mkS x)] w fun e w' => (∃ g, e = .returned (.tuple #[.pointer (some ⟨g, 0, none⟩), .int .i64 (l.length : Nat), .int .i64 0]) ∧ StoreAt w' (fun _ => True) g (sortT l)) ∧ Below w.heap.size w w' := by
  have hp : parse x = (sortT l, l.length, 0) := by rw [hx]; exact parse_print hv hl (by rw [← hx]; exact hs)
  refine (load_good x (by omega) w he (by rw [hp])).mono ?_
  rintro e w' ⟨⟨g, he, hS⟩, hb⟩
  rw [hp] at he hS
  exact ⟨⟨g, he, hS.mono (fun _ _ _ => trivial)⟩, hb⟩
end Go.Proofs.YtnplommdgfgboaaGreatDoor.SCommon
set_option linter.unusedVariables false
set_option linter.unusedSimpArgs false
namespace Go.Proofs.YtnplommdgfgboaaGreatDoor.IdsAll
open Go.RowKit Go.Lib Go.Proofs.YtnplommdgfgboaaGreatDoor.B Go.Proofs.YtnplommdgfgboaaGreatDoor.Rd Go.Proofs.YtnplommdgfgboaaGreatDoor.OrdG Go.Proofs.YtnplommdgfgboaaGreatDoor.StoreW Go.Proofs.YtnplommdgfgboaaGreatDoor.IdsCmp Go.Proofs.YtnplommdgfgboaaGreatDoor.IdsW Go.Proofs.YtnplommdgfgboaaGreatDoor.Clones
set_option maxHeartbeats 3200000 in
set_option maxRecDepth 100000 in
theorem matches8_calls (p : Pat) (x : Ids) (w : World) : Calls Tryz.prog 55 #[.agg (patL p).toArray, .agg (idsL x).toArray] w fun e w' => e = .returned (.bool (matchP p x)) ∧ Below w.heap.size w w' := by
  have hb : Below w.heap.size w ((w.alloc (.cells (patL p).toArray 40)).alloc (.cells (idsL x).toArray 40)) := bel_alloc (bel_alloc (Below.refl _ _) _) _
  have hp : P3 ((w.alloc (.cells (patL p).toArray 40)).alloc (.cells (idsL x).toArray 40)) w.heap.size 0 p := (P3.new w p).below (bel_alloc (Below.refl _ _) _)
  have hx : I3 ((w.alloc (.cells (patL p).toArray 40)).alloc (.cells (idsL x).toArray 40)) (w.heap.size + 1) 0 x := by
    have := I3.new (w.alloc (.cells (patL p).toArray 40)) x
    rwa [show (w.alloc (.cells (patL p).toArray 40)).heap.size = w.heap.size + 1 by simp] at this
  obtain ⟨w0, hw0⟩ : ∃ w0, w0 = ((w.alloc (.cells (patL p).toArray 40)).alloc (.cells (idsL x).toArray 40)) := ⟨_, rfl⟩
  rw [← hw0] at hb hp hx
  have HB := Lib.hid hb
  have HP := Lib.hid (fun k (hk : k < 3) => (hp k hk))
  have HX := Lib.hid (fun k (hk : k < 3) => (hx k hk))
  have HW : Hid ((w.alloc (.cells (patL p).toArray 40)).alloc (.cells (idsL x).toArray 40) = w0) := Lib.hid hw0.symm
  have HN := Lib.hid (fun k hk => match_no (p := p) (x := x) (k := k) hk)
  have HY := Lib.hid (match_yes (p := p) (x := x))
  obtain ⟨v, hv⟩ : ∃ v, v = matchP p x := ⟨_, rfl⟩
  rw [← hv] at HN HY
  rw [← hv]
  simp only [Nat.zero_add] at HP HX
  clear hb hp hx hw0 hv
  obtain ⟨pa, pb, pc⟩ := p
  obtain ⟨xa, xb, xc⟩ := x
  unfold patL idsL at *
  dsimp only at *
  go_enter Tryz.func55, Tryz.ntmps55
  go_upto_region 1 with fail
  rw [HW.out]
  clear HW
  go_wp2
  go_loopw [5] (fun vk wr => ∃ k : Nat, vk = .int .i64 k ∧ k ≤ 3 ∧ Hid (∀ j, j < k → (⟨pa, pb, pc⟩ : Pat).at j = 0 ∨ (⟨pa, pb, pc⟩ : Pat).at j = (at3 ⟨xa, xb, xc⟩ j : Nat)) ∧ Hid (∃ n, wr = w0.drewN n)) (fun vk _ => 3 - (intOf vk).toNat)
  case atStart => exact ⟨0, rfl, by omega, Lib.hid (fun j h => absurd h (by omega)), Lib.hid ⟨0, rfl⟩⟩
  case round =>
    obtain ⟨k, rfl, hk, HJ, HDr⟩ := hrel
    by_cases hlt : k < 3
    · have hd : decide ((k : Int) < 3) = true := decide_eq_true (by omega)
      have ik : (k : Int) < 3 := by omega
      obtain ⟨n, rfl⟩ := HDr.out
      have c0 : (w0.drewN n).cell? ⟨w.heap.size, k, none⟩ = some (.int .i64 ((⟨pa, pb, pc⟩ : Pat).at k)) := HP.out k hlt
      have c1 : (w0.drewN n).cell? ⟨w.heap.size + 1, k, none⟩ = some (.int .i64 (at3 ⟨xa, xb, xc⟩ k : Nat)) := HX.out k hlt
      obtain ⟨q, hq⟩ : ∃ q, q = (⟨pa, pb, pc⟩ : Pat).at k := ⟨_, rfl⟩
      obtain ⟨y, hy⟩ : ∃ y, y = at3 ⟨xa, xb, xc⟩ k := ⟨_, rfl⟩
      rw [← hq] at c0
      rw [← hy] at c1
      have HJ2 : Hid (q = 0 ∨ q = (y : Int) → ∀ j, j < k + 1 → (⟨pa, pb, pc⟩ : Pat).at j = 0 ∨ (⟨pa, pb, pc⟩ : Pat).at j = (at3 ⟨xa, xb, xc⟩ j : Nat)) := Lib.hid (fun h j hj => by
        by_cases e : j = k
        · subst e; rw [← hq, ← hy]; exact h
        · exact HJ.out j (by omega))
      have HV2 : Hid (q ≠ 0 → q ≠ (y : Int) → v = false) := Lib.hid (fun h0 h1 => HN.out k hlt (by rw [← hq]; exact h0) (by rw [← hq, ← hy]; exact h1))
      have HBd : Hid (∀ m, Below w.heap.size w ((w0.drewN n).drewN m)) := Lib.hid (fun m => bel_drewN (bel_drewN HB.out n) m)
      have HDr2 : Hid (∀ m, ∃ n', (w0.drewN n).drewN m = w0.drewN n') := Lib.hid (fun m => ⟨n + m, by unfold World.drewN; simp [Nat.add_assoc]⟩)
      clear hq hy HJ HDr
      generalize w0.drewN n = w1 at *
      by_cases h0 : q = 0
      · have hn0 : (q != 0) = false := by simp [h0]
        have HJ3 := Lib.hid (HJ2.out (.inl h0))
        clear h0 HJ2 HV2
        go_upto_region 4 with fail
        go_quiet (fail)
        go_wp2
        go_roundw
        case rel => exact ⟨k + 1, by go_num, by omega, HJ3, Lib.hid (HDr2.out _)⟩
        case measure => simp [intOf]; omega
      · have hn0 : (q != 0) = true := by simp [h0]
        by_cases h1 : q = (y : Int)
        · have hn1 : (q != (y : Int)) = false := by simp [h1]
          have HJ3 := Lib.hid (HJ2.out (.inr h1))
          clear h0 h1 HJ2 HV2
          go_upto_region 4 with fail
          go_quiet (fail)
          go_wp2
          go_roundw
          case rel => exact ⟨k + 1, by go_num, by omega, HJ3, Lib.hid (HDr2.out _)⟩
          case measure => simp [intOf]; omega
        · have hn1 : (q != (y : Int)) = true := by simp [h1]
          have HV := Lib.hid (HV2.out h0 h1)
          clear h0 h1 HJ2 HV2
          go_upto_region 4 with fail
          go_quiet (fail)
          go_wp2
          go_ret
          exact ⟨by rw [HV.out]; rfl, HBd.out _⟩
    · have hd : decide ((k : Int) < 3) = false := decide_eq_false (by omega)
      obtain rfl : k = 3 := by omega
      have HV := Lib.hid (HY.out HJ.out)
      have HBd : Hid (Below w.heap.size w wr) := Lib.hid (by obtain ⟨n, rfl⟩ := HDr.out; exact bel_drewN HB.out n)
      clear HDr
      go_wp2
      go_ret
      exact ⟨by rw [HV.out]; rfl, HBd.out⟩
theorem ids_cells {w : World} {ok : Nat → Prop} {l : List Ids} {A : Option Addr} {c : Nat} (h : idsK.sl.M w ok l [.slice A l.length c]) (hp : 0 < l.length) :
    ∃ b off, A = some ⟨b, off, none⟩ ∧ ok b ∧ b < w.heap.size ∧ ∀ i (hi : i < l.length), I3 w b (off + i * 3) l[i] := by
  obtain ⟨A', c', he, hlc, _, hA, hrow⟩ := h
  obtain ⟨rfl, rfl⟩ : A = A' ∧ c = c' := by simpa using he
  obtain ⟨b, off, hAe, hok, hb, hcells⟩ := Kd.row_addr hrow hp
  refine ⟨b, off, hAe, hok, hb, fun i hi => ?_⟩
  obtain ⟨cs, ⟨hcs, _⟩, hcell⟩ := hcells i hi
  subst hcs
  exact I3.of hcell
theorem ids_fits {w : World} {ok : Nat → Prop} {l : List Ids} {A : Option Addr} {c : Nat} (h : idsK.sl.M w ok l [.slice A l.length c]) : ∀ x ∈ l, FitsI x := by
  obtain ⟨A', c', he, _, _, _, hrow⟩ := h
  intro x hx
  obtain ⟨i, hi, rfl⟩ := List.getElem_of_mem hx
  obtain ⟨b, off, _, _, _, hcells⟩ := Kd.row_addr hrow (by omega)
  obtain ⟨cs, ⟨_, hf⟩, _⟩ := hcells i hi
  exact hf
theorem _root_.Go.Proofs.YtnplommdgfgboaaGreatDoor.IdsCmp.I3.bel {w : World} {g o : Nat} {x : Ids} (h : I3 w g o x) (p : QT.Bel w) : I3 p.w g o x := h.below p.bel
theorem filter_take {f : Ids → Bool} (l : List Ids) (k : Nat) (h : k < l.length) : (l.take (k + 1)).filter f = if f l[k] then (l.take k).filter f ++ [l[k]] else (l.take k).filter f := by
  rw [List.take_succ_eq_append_getElem h, List.filter_append, List.filter_cons]
  split <;> simp
set_option maxHeartbeats 6400000 in
set_option maxRecDepth 100000 in
theorem all8_calls (p : Pat) (l : List Ids) (hl : l.length ≤ 1000) (A : Option Addr) (c : Nat) (w : World) (HL : idsK.sl.M w (fun k => k < w.heap.size) l [.slice A l.length c]) :
    Calls Tryz.prog 27 #[.slice A l.length c, .agg (patL p).toArray] w fun e w' => (∃ A' c', e = .returned (.slice A' (l.filter (matchP p)).length c') ∧ idsK.sl.M w' (fun k => k < w'.heap.size) (l.filter (matchP p)) [.slice A' (l.filter (matchP p)).length c']) ∧ Below w.heap.size w w' := by
  have hb : Below w.heap.size w (w.alloc (.cells (patL p).toArray 40)) := bel_alloc (Below.refl _ _) _
  have hp := P3.new w p
  obtain ⟨w0, hw0⟩ : ∃ w0, w0 = w.alloc (.cells (patL p).toArray 40) := ⟨_, rfl⟩
  rw [← hw0] at hb hp
  have HWX : Hid (w.alloc (.cells (patL p).toArray 40) = w0) := Lib.hid hw0.symm
  have HR := Lib.hid (fun hp => ids_cells HL hp)
  have HF := Lib.hid (ids_fits HL)
  have HM := Lib.hid (fun x W => matches8_calls p x W)
  have HO0 : Hid (idsK.own 40 w0 (w.heap.size + 1) TT (.slice none 0 0) []) := Lib.hid (Kd.own_nil _ _ _ _ _)
  have HSt0 : Hid (Below w.heap.size w w0 ∧ P3 w0 w.heap.size 0 p ∧ w.heap.size + 1 ≤ w0.heap.size) := Lib.hid ⟨hb, hp, by rw [hw0]; simp⟩
  clear hb hp hw0 HL
  unfold patL at HWX HM
  unfold patL
  go_enter Tryz.func27, Tryz.ntmps27
  go_upto_region 1 with fail
  rw [HWX.out]
  clear HWX
  go_wp2
  go_loopw [5, 6] (fun v5 vk wr => ∃ (k : Nat) (F : List Ids), vk = .int .i64 k ∧ k ≤ l.length ∧ Hid (F = (l.take k).filter (matchP p) ∧ idsK.own 40 wr (w.heap.size + 1) TT v5 F ∧ Below w.heap.size w wr ∧ P3 wr w.heap.size 0 p ∧ w.heap.size + 1 ≤ wr.heap.size)) (fun _ vk _ => l.length - (intOf vk).toNat)
  case atStart => exact ⟨0, [], rfl, by omega, Lib.hid ⟨rfl, HO0.out, HSt0.out.1, HSt0.out.2.1, HSt0.out.2.2⟩⟩
  case round =>
    obtain ⟨k, F, rfl, hk, HI⟩ := hrel
    clear HO0 HSt0
    obtain ⟨A5, c5, rfl, _, _⟩ := Kd.own_slice HI.out.2.1
    by_cases hlt : k < l.length
    · have hd : decide (k < l.length) = true := decide_eq_true hlt
      have ik : (k : Int) < (l.length : Int) := by omega
      obtain ⟨b, off, rfl, _, hbs, hcells⟩ := HR.out (by omega)
      have hcx := (hcells k hlt).below HI.out.2.2.1
      have hfl := filter_take (f := matchP p) l k hlt
      obtain ⟨x, hx⟩ : ∃ x, x = l[k] := ⟨_, rfl⟩
      rw [← hx] at hcx hfl
      have HFx := Lib.hid (HF.out x (by rw [hx]; exact List.getElem_mem hlt))
      have HC := Lib.hid (HM.out x)
      obtain ⟨v, hv⟩ : ∃ v, v = matchP p x := ⟨_, rfl⟩
      rw [← hv, ← HI.out.1] at hfl
      rw [← hv] at HC
      have HFl := Lib.hid hfl
      have HFlen : Hid (F.length ≤ l.length) := Lib.hid (by rw [HI.out.1]; exact Nat.le_trans (List.length_filter_le _ _) (by rw [List.length_take]; omega))
      have hq0 := fun (q : QT.Bel wr) => (HI.out.2.2.2.1.below q.bel) 0 (by decide)
      have hq1 := fun (q : QT.Bel wr) => (HI.out.2.2.2.1.below q.bel) 1 (by decide)
      have hq2 := fun (q : QT.Bel wr) => (HI.out.2.2.2.1.below q.bel) 2 (by decide)
      have x0 := fun (q : QT.Bel wr) => (hcx.bel q) 0 (by decide)
      have x1 := fun (q : QT.Bel wr) => (hcx.bel q) 1 (by decide)
      have x2 := fun (q : QT.Bel wr) => (hcx.bel q) 2 (by decide)
      simp only [Nat.zero_add, Nat.add_zero, Pat.at, at3] at hq0 hq1 hq2 x0 x1 x2
      have HXc := Lib.hid hcx
      have HN : Hid (∀ W, Below wr.heap.size wr W → idsK.own 40 W (w.heap.size + 1) TT (.slice A5 F.length c5) F ∧ Below w.heap.size w W ∧ P3 W w.heap.size 0 p ∧ w.heap.size + 1 ≤ W.heap.size) := Lib.hid (fun W h => ⟨Kd.own_below HI.out.2.1 h, bel_step HI.out.2.2.1 h, HI.out.2.2.2.1.below h, Nat.le_trans HI.out.2.2.2.2 h.size⟩)
      clear hx hv hfl hcells hcx HI
      obtain ⟨xa, xb, xc⟩ := x
      unfold idsL at HC
      dsimp only at *
      go_upto_region 5 with fail
      refine QT.region_all (by kernel_rfl) (by kernel_rfl) ?_
      iterate 5 (go_big_quiet_step (fail))
      go_big_quiet_step (exact QT.Bel.call _ (HC.out _))
      refine wpQuiet_nil ?_
      intro w2 hw'
      obtain ⟨⟨_, hb2⟩, rfl⟩ := hw'
      have HN2 := Lib.hid (HN.out w2 hb2)
      have hx3 := HXc.out.below hb2
      have a0 := hx3 0 (by decide)
      have a1 := hx3 1 (by decide)
      have a2 := hx3 2 (by decide)
      simp only [Nat.add_zero, at3] at a0 a1 a2
      clear hb2 hq0 hq1 hq2 x0 x1 x2 HC HN HXc hx3
      cases v
      · simp only [Bool.false_eq_true, if_false] at HFl
        go_wp2
        go_roundw
        case rel => exact ⟨k + 1, F, by go_num, by omega, Lib.hid ⟨HFl.out.symm, HN2.out.1, HN2.out.2.1, HN2.out.2.2.1, HN2.out.2.2.2⟩⟩
        case measure => simp [intOf]; omega
      · simp only [if_true] at HFl
        have hfl := HFlen.out
        have HMx : Hid (∀ W, idsK.M W (fun k => TT k ∧ some k ≠ (Value.slice A5 F.length c5).ownBlock) ⟨xa, xb, xc⟩ [.int .i64 (xa : Nat), .int .i64 (xb : Nat), .int .i64 (xc : Nat)]) := Lib.hid (fun W => ⟨rfl, HFx.out⟩)
        go_wp2_with (at_builtin; refine Kd.own_app1 idsK (w.heap.size + 1) rfl (.tmp 19) (.tmp 24) 48 40 zero_ids 24 rfl Tryz.underlying48 info_ids rfl (by decide) _ F ⟨xa, xb, xc⟩ [.int .i64 (xa : Nat), .int .i64 (xb : Nat), .int .i64 (xc : Nat)] TT (by rfl) (by rfl) HN2.out.1 (HMx.out _) (Below.refl _ _) HN2.out.2.2.2 (by omega) ?_; intro v1 w3 ho1 hb1 hg1 hv1; clear hg1 hv1; have HO3 := Lib.hid ho1; have HB3 := Lib.hid hb1; clear ho1 hb1; obtain ⟨A6, c6, rfl, _, _⟩ := Kd.own_slice HO3.out)
        have HN3 : Hid (Below w.heap.size w w3 ∧ P3 w3 w.heap.size 0 p ∧ w.heap.size + 1 ≤ w3.heap.size) := Lib.hid ⟨HN2.out.2.1.trans (HB3.out.mono (Nat.le_succ _)), HN2.out.2.2.1.moved (HB3.out.block _ (Nat.lt_succ_self _)), Nat.le_trans HN2.out.2.2.2 HB3.out.size⟩
        go_wp2
        go_roundw
        case rel => exact ⟨k + 1, F ++ [⟨xa, xb, xc⟩], by go_num, by omega, Lib.hid ⟨HFl.out.symm, by have h := HO3.out; first | exact h | (rw [List.length_append] at h; exact h), HN3.out.1, HN3.out.2.1, HN3.out.2.2⟩⟩
        case measure => simp [intOf]; omega
    · have hd : decide (k < l.length) = false := decide_eq_false hlt
      have HFe : Hid (l.filter (matchP p) = F) := Lib.hid (by rw [HI.out.1, List.take_of_length_le (by omega)])
      have HO : Hid (idsK.sl.M wr (fun k => k < wr.heap.size) F [.slice A5 F.length c5]) := Lib.hid (Kd.M_bound (Kd.own_sl (ok := TT) (ok' := TT) HI.out.2.1 (fun _ _ => trivial) (fun _ _ => trivial)))
      have HB := Lib.hid HI.out.2.2.1
      clear HI
      go_wp2
      go_ret
      rw [HFe.out]
      exact ⟨⟨_, _, rfl, HO.out⟩, HB.out⟩
theorem run_ne_ids (x y : Ids) (w : World) : (binOp .neq 40 (.agg #[.int .i64 (x.a : Nat), .int .i64 (x.b : Nat), .int .i64 (x.c : Nat)]) (.agg #[.int .i64 (y.a : Nat), .int .i64 (y.b : Nat), .int .i64 (y.c : Nat)])).run Tryz.prog w = .ok (.bool (!decide (x = y))) w := by
  obtain ⟨i, hi, _⟩ := info_parts info_int
  have hu : Tryz.prog.underlying 40 = some (.array 3 3) := Tryz.underlying40
  have hc : (Tryz.prog).cellsOf 3 = 1 := by kernel_rfl
  have u3 := Tryz.underlying3
  have a3 := Tryz.isAgg3
  have z3 := Tryz.sizeOf3
  obtain ⟨xa, xb, xc⟩ := x
  obtain ⟨ya, yb, yc⟩ := y
  dsimp only
  rw [run_neq_struct, show (10000 : Nat) = 9998 + 1 + 1 from rfl, run_equalIn_array (w := w) (9998 + 1) _ _ hu hi, hc, show List.range 3 = [0, 1, 2] from rfl]
  simp only [Op.eqItems]
  go_simp
  by_cases h1 : xa = ya <;> by_cases h2 : xb = yb <;> by_cases h3 : xc = yc <;> simp [h1, h2, h3] <;> omega
set_option maxHeartbeats 6400000 in
set_option maxRecDepth 100000 in
theorem same8_calls (l m : List Ids) (A B : Option Addr) (c d : Nat) (w : World) (HL : idsK.sl.M w (fun k => k < w.heap.size) l [.slice A l.length c]) (HM : idsK.sl.M w (fun k => k < w.heap.size) m [.slice B m.length d]) (h47 : l.length ≤ 1000000) (h48 : m.length ≤ 1000000) :
    Calls Tryz.prog 25 #[.slice A l.length c, .slice B m.length d] w fun e w' => e = .returned (.bool (decide (l = m))) ∧ Below w.heap.size w w' := by
  have HR := Lib.hid (fun hp => ids_cells HL hp)
  have HQ := Lib.hid (fun hp => ids_cells HM hp)
  clear HL HM
  by_cases hlen : l.length = m.length
  · have hne : (l.length != m.length) = false := by simp [hlen]
    have hne2 : ((l.length : Int) != (m.length : Int)) = false := by simp [hlen]
    have HLen := Lib.hid hlen
    clear hlen
    go_enter Tryz.func25, Tryz.ntmps25
    go_wp2
    go_loopw [5] (fun vi wr => ∃ k : Nat, vi = .int .i64 k ∧ k ≤ l.length ∧ Hid (l.take k = m.take k ∧ Below w.heap.size w wr)) (fun vi _ => l.length - (intOf vi).toNat)
    case atStart => exact ⟨0, rfl, by omega, Lib.hid ⟨rfl, Below.refl _ _⟩⟩
    case round =>
      obtain ⟨k, rfl, hkL, HI⟩ := hrel
      by_cases hlt : k < l.length
      · have hd : decide (k < l.length) = true := decide_eq_true hlt
        have ik : (k : Int) < (l.length : Int) := by omega
        have hkm : k < m.length := by rw [← HLen.out]; exact hlt
        have ikm : (k : Int) < (m.length : Int) := by omega
        obtain ⟨b, off, rfl, _, hbs, hcells⟩ := HR.out (by omega)
        obtain ⟨b2, off2, rfl, _, hbs2, hcells2⟩ := HQ.out (by omega)
        have hcx := (hcells k hlt).below HI.out.2
        have hcy := (hcells2 k hkm).below HI.out.2
        obtain ⟨x, hx⟩ : ∃ x, x = l[k] := ⟨_, rfl⟩
        obtain ⟨y, hy⟩ : ∃ y, y = m[k] := ⟨_, rfl⟩
        rw [← hx] at hcx
        rw [← hy] at hcy
        have HNe := Lib.hid (fun w => run_ne_ids x y w)
        have HOk : Hid (x = y → l.take (k + 1) = m.take (k + 1)) := Lib.hid (fun h => by
          rw [List.take_succ_eq_append_getElem hlt, List.take_succ_eq_append_getElem hkm, HI.out.1, ← hx, ← hy, h])
        have HNo : Hid (x ≠ y → decide (l = m) = false) := Lib.hid (fun h => decide_eq_false (fun h2 => h (by rw [hx, hy]; subst h2; rfl)))
        have HB := Lib.hid HI.out.2
        have x0 := hcx 0 (by decide)
        have x1 := hcx 1 (by decide)
        have x2 := hcx 2 (by decide)
        have y0 := hcy 0 (by decide)
        have y1 := hcy 1 (by decide)
        have y2 := hcy 2 (by decide)
        simp only [Nat.add_zero, at3] at x0 x1 x2 y0 y1 y2
        clear hcells hcells2 hx hy HI hcx hcy
        by_cases hxy : x = y
        · rw [decide_eq_true hxy] at HNe
          have HN := Lib.hid (HOk.out hxy)
          clear hxy HOk HNo
          obtain ⟨xa, xb, xc⟩ := x
          obtain ⟨ya, yb, yc⟩ := y
          have hnn := HNe.out
          dsimp only at x0 x1 x2 y0 y1 y2 hnn
          go_upto_region 6 with fail
          go_quiet (fail)
          go_wp2
          go_roundw
          case rel => exact ⟨k + 1, by go_num, by omega, Lib.hid ⟨HN.out, bel_drewN HB.out _⟩⟩
          case measure => simp [intOf]; omega
        · rw [decide_eq_false hxy] at HNe
          have HN := Lib.hid (HNo.out hxy)
          clear hxy HOk HNo
          obtain ⟨xa, xb, xc⟩ := x
          obtain ⟨ya, yb, yc⟩ := y
          have hnn := HNe.out
          dsimp only at x0 x1 x2 y0 y1 y2 hnn
          go_upto_region 6 with fail
          go_quiet (fail)
          go_wp2
          go_ret
          exact ⟨by rw [HN.out]; rfl, bel_drewN HB.out _⟩
      · have hd : decide (k < l.length) = false := decide_eq_false hlt
        have HN : Hid (decide (l = m) = true) := Lib.hid (decide_eq_true (by
          have := HI.out.1
          rwa [List.take_of_length_le (by omega), List.take_of_length_le (by rw [← HLen.out]; omega)] at this))
        have HB := Lib.hid HI.out.2
        clear HI
        go_wp2
        go_ret
        exact ⟨by rw [HN.out]; rfl, HB.out⟩
  · have hne : (l.length != m.length) = true := by simp [hlen]
    have hne2 : ((l.length : Int) != (m.length : Int)) = true := by simp; omega
    have HN : Hid (decide (l = m) = false) := Lib.hid (decide_eq_false (fun h => hlen (by rw [h])))
    clear hlen
    go_enter Tryz.func25, Tryz.ntmps25
    go_wp2
    go_ret
    exact ⟨by rw [HN.out]; rfl, Below.refl _ _⟩
end Go.Proofs.YtnplommdgfgboaaGreatDoor.IdsAll
set_option linter.unusedVariables false
set_option linter.unusedSimpArgs false
namespace Go.Proofs.YtnplommdgfgboaaGreatDoor.PutE
open Go.RowKit Go.Lib Go.Proofs.YtnplommdgfgboaaGreatDoor.B Go.Proofs.YtnplommdgfgboaaGreatDoor.Rd Go.Proofs.YtnplommdgfgboaaGreatDoor.TermPure Go.Proofs.YtnplommdgfgboaaGreatDoor.LinesPure Go.Proofs.YtnplommdgfgboaaGreatDoor.Tri Go.Proofs.YtnplommdgfgboaaGreatDoor.SortP Go.Proofs.YtnplommdgfgboaaGreatDoor.OrdG Go.Proofs.YtnplommdgfgboaaGreatDoor.TermW Go.Proofs.YtnplommdgfgboaaGreatDoor.Cmp Go.Proofs.YtnplommdgfgboaaGreatDoor.Search Go.Proofs.YtnplommdgfgboaaGreatDoor.Clones
/-- A term set among sorted ones. -/
def putL (l : List Term) (t : Term) : List Term := putE (fun a b => decide (ltTm a b)) l t
theorem cellsE : (Tryz.prog).cellsOf 24 = termK.sz := by kernel_rfl
theorem three {w : World} {g : Nat} {t : Term} (h : C3 w g 0 t) : w.cell? ⟨g, 0, none⟩ = some (.int .i64 t.kind) ∧ w.cell? ⟨g, 1, none⟩ = some (.string (mkS t.text)) ∧ w.cell? ⟨g, 2, none⟩ = some (.string (mkS t.extra)) := by
  obtain ⟨c0, c1, c2⟩ := h
  simp only [Nat.zero_add] at *
  exact ⟨c0, c1, c2⟩
theorem row_of {w1 : World} {g : Nat} {t : Term} (ht : FitsW t) (h : C3 w1 g 0 t) : termK.sl.M w1 (fun _ => True) [t] [.slice (some ⟨g, 0, none⟩) 1 1] := by
  refine ⟨some ⟨g, 0, none⟩, 1, rfl, Nat.le_refl _, ⟨by simp, by unfold maxLen; omega⟩, fun h => (by cases h), fun i x hx => ?_⟩
  cases i with
  | zero =>
    simp at hx
    subst hx
    refine ⟨_, termL t, rfl, trivial, ⟨rfl, ht⟩, fun j u hu => ?_⟩
    rw [Nat.zero_mul, Nat.zero_add, add_plain]
    obtain ⟨c0, c1, c2⟩ := h
    have hj : j < 3 := (List.getElem?_eq_some_iff.1 hu).1
    match j, hj with
    | 0, _ => cases hu; exact c0
    | 1, _ => cases hu; exact c1
    | 2, _ => cases hu; exact c2
  | succ i => simp at hx
theorem one_row (w : World) (t : Term) (ht : FitsW t) : termK.sl.M (w.alloc (.cells (termL t).toArray 24)) (fun _ => True) [t] [.slice (some ⟨w.heap.size, 0, none⟩) 1 1] := row_of ht (C3.new w t)
theorem one_grown {W w1 : World} {g : Nat} {r : Option Nat} {t : Term} (ht : FitsW t) (h : C3 W g 0 t) (hg : W.grownBy w1 r) (hne : some g ≠ r) : termK.sl.M w1 (fun _ => True) [t] [.slice (some ⟨g, 0, none⟩) 1 1] :=
  row_of ht (h.moved (hg.block g h.lt hne))
theorem own0_1 (w : World) : termK.own 24 (w.alloc (.cells #[] 24)) w.heap.size TT (.slice (some ⟨w.heap.size, 0, none⟩) 0 0) [] :=
  Kd.own_block (cells := []) (xs := []) (Nat.le_refl _) (Kd.heap_new _ _) rfl (by simp) (fun i x h => by simp at h)
theorem own0_2 (w : World) (o : Obj) : termK.own 24 ((w.alloc o).alloc (.cells #[] 24)) w.heap.size TT (.slice (some ⟨w.heap.size + 1, 0, none⟩) 0 0) [] := by
  have h := own0_1 (w.alloc o)
  rw [show (w.alloc o).heap.size = w.heap.size + 1 by simp] at h
  exact Kd.own_lower (by omega) h
theorem C3_new1 (w : World) (o : Obj) (t : Term) : C3 ((w.alloc o).alloc (.cells (termL t).toArray 24)).drew (w.heap.size + 1) 0 t := by
  have h := C3.new (w.alloc o) t
  rw [show (w.alloc o).heap.size = w.heap.size + 1 by simp] at h
  exact h.moved rfl
theorem C3_new2 (w : World) (t : Term) (o : Obj) : C3 ((w.alloc (.cells (termL t).toArray 24)).alloc o).drew w.heap.size 0 t :=
  ((C3.new w t).below (bel_alloc (Below.refl _ _) o)).moved rfl
theorem put_same : ∀ (l : List Term) (t : Term) (i : Nat) (hi : i < l.length), (∀ j (h : j < l.length), j < i → ltTm l[j] t) → l[i] = t → putL l t = l
  | [], _, _, h, _, _ => by simp at h
  | x :: l, t, 0, _, _, h0 => by
    rw [List.getElem_cons_zero] at h0
    unfold putL
    rw [putE, if_neg (by simp only [decide_eq_true_eq, h0]; exact List.lt_irrefl _), if_pos h0]
  | x :: l, t, i + 1, hi, hlt, h0 => by
    have h1 := hlt 0 (by simp) (by omega)
    rw [List.getElem_cons_zero] at h1
    have ih := put_same l t i (by simpa using hi) (fun j h hj => by have := hlt (j + 1) (by simpa using h) (by omega); rw [List.getElem_cons_succ] at this; exact this) (by rw [List.getElem_cons_succ] at h0; exact h0)
    unfold putL at ih ⊢
    rw [putE, if_pos (decide_eq_true h1), ih]
theorem put_ins : ∀ (l : List Term) (t : Term) (i : Nat), i ≤ l.length → (∀ j (h : j < l.length), j < i → ltTm l[j] t) → (∀ h : i < l.length, ¬ ltTm l[i] t ∧ l[i] ≠ t) → putL l t = l.take i ++ [t] ++ l.drop i
  | [], _, i, _, _, _ => by simp [putL, putE]
  | x :: l, t, 0, _, _, h0 => by
    have := h0 (by simp)
    rw [List.getElem_cons_zero] at this
    unfold putL
    rw [putE, if_neg (by simp only [decide_eq_true_eq]; exact this.1), if_neg this.2]
    simp
  | x :: l, t, i + 1, hi, hlt, h0 => by
    have h1 := hlt 0 (by simp) (by omega)
    rw [List.getElem_cons_zero] at h1
    have ih := put_ins l t i (by simpa using hi) (fun j h hj => by have := hlt (j + 1) (by simpa using h) (by omega); rw [List.getElem_cons_succ] at this; exact this) (fun h => by have := h0 (by simpa using h); rw [List.getElem_cons_succ] at this; exact this)
    unfold putL at ih ⊢
    rw [putE, if_pos (decide_eq_true h1), ih]
    simp
set_option maxHeartbeats 12800000 in
set_option maxRecDepth 100000 in
theorem put_calls (l : List Term) (t : Term) (A : Option Addr) (c : Nat) (w : World) (ok : Nat → Prop) (HLo : termK.sl.M w ok l [.slice A l.length c]) (HL : termK.sl.M w (fun k => k < w.heap.size) l [.slice A l.length c]) (hs : ∀ x ∈ l, SmallM x) (hst : SmallM t) (hft : FitsW t) (hb : l.length ≤ 1000000) :
    Calls Tryz.prog 48 #[.slice A l.length c, Ref5.termV t] w fun e w' => ∃ A' c', e = .returned (.slice A' (putL l t).length c') ∧ termK.sl.M w' (fun k => ok k ∨ w.heap.size ≤ k) (putL l t) [.slice A' (putL l t).length c'] ∧ Below w.heap.size w w' := by
  have HLO := Lib.hid HLo
  clear HLo
  have HR := Lib.hid (fun hp => term_cells HL hp)
  have HS := Lib.hid hs
  obtain ⟨A', c', he, hlc, ⟨hl47, hcm⟩, hA, hrow⟩ := HL
  obtain ⟨rfl, rfl⟩ : A = A' ∧ c = c' := by simpa using he
  clear he
  have HROW : Hid (termK.row w TT A l) := Lib.hid (Kd.row_mono (fun _ _ _ => trivial) hrow)
  have HC0 := Lib.hid (C3.new w t)
  clear hrow hs
  unfold Ref5.termV
  go_enter Tryz.func48, Tryz.ntmps48
  go_wp2
  go_loopw [5] (fun vi wr => ∃ i : Nat, vi = .int .i64 i ∧ i ≤ l.length ∧ Hid ((∀ j (h : j < l.length), j < i → ltTm l[j] t) ∧ Below w.heap.size w wr ∧ C3 wr w.heap.size 0 t)) (fun vi _ => l.length - (intOf vi).toNat)
  case atStart => exact ⟨0, rfl, by omega, Lib.hid ⟨fun j h hj => by omega, bel_alloc (Below.refl _ _) _, HC0.out⟩⟩
  case round =>
    obtain ⟨i, rfl, hiL, HI⟩ := hrel
    clear HC0
    by_cases hlt : i < l.length
    · have hd : decide (i < l.length) = true := decide_eq_true hlt
      have ik : (i : Int) < (l.length : Int) := by omega
      obtain ⟨b, off, rfl, _, hbs, hcells⟩ := HR.out (by omega)
      have hcx := (hcells i hlt).below HI.out.2.1
      have hcy := HI.out.2.2
      obtain ⟨x, hx⟩ : ∃ x, x = l[i] := ⟨_, rfl⟩
      rw [← hx] at hcx
      have HCC := Lib.hid (fun w => RefCmp.cmp4_calls x t (by rw [hx]; exact HS.out _ (List.getElem_mem hlt)) hst w)
      obtain ⟨v, hv⟩ : ∃ v, v = cmpTm x t := ⟨_, rfl⟩
      have hvl : v < 0 ↔ ltTm x t := by rw [hv]; exact cmpTm_lt x t
      rw [← hv] at HCC
      have HQ := Lib.hid (fun W => TriEq.run_eq_term x t W)
      have HNext : Hid (v < 0 → ∀ j (h : j < l.length), j < i + 1 → ltTm l[j] t) := Lib.hid (fun h j hj hji => by
        by_cases e : j = i
        · subst e
          rw [← hx]
          exact hvl.1 h
        · exact HI.out.1 j hj (by omega))
      have HSame : Hid (x = t → putL l t = l) := Lib.hid (fun h => put_same l t i hlt HI.out.1 (by rw [← hx]; exact h))
      have HIns : Hid (¬ v < 0 → x ≠ t → putL l t = l.take i ++ [t] ++ l.drop i) := Lib.hid (fun h h' => put_ins l t i hiL HI.out.1 (fun h2 => by rw [← hx]; exact ⟨fun h3 => h (hvl.2 h3), h'⟩))
      have HIW := Lib.hid HI.out.2
      clear hcells hx hv hvl
      by_cases hv0 : v < 0
      · have hvd : decide (v < 0) = true := decide_eq_true hv0
        have HNx := Lib.hid (HNext.out hv0)
        clear HNext HSame HIns hv0 HQ
        obtain ⟨xk, xt, xe⟩ := x
        obtain ⟨yk, yt, ye⟩ := t
        have x0 := fun p => (hcx.bel p).c0
        have x1 := fun p => (hcx.bel p).c1
        have x2 := fun p => (hcx.bel p).c2
        have y0 := fun p => (hcy.bel p).c0
        have y1 := fun p => (hcy.bel p).c1
        have y2 := fun p => (hcy.bel p).c2
        dsimp only at x0 x1 x2 y0 y1 y2
        unfold Ref5.termV at HCC
        dsimp only at HCC
        go_upto_region 2 with fail
        refine QT.region_all (by kernel_rfl) (by kernel_rfl) ?_
        iterate 10 (go_big_quiet_step (fail))
        go_big_quiet_step (exact QT.Bel.call _ (HCC.out _))
        iterate 2 (go_big_quiet_step (fail))
        refine wpQuiet_nil ?_
        intro w2 hw'
        obtain ⟨⟨_, hb⟩, rfl⟩ := hw'
        have HW2 : Hid (Below w.heap.size w w2 ∧ C3 w2 w.heap.size 0 ⟨yk, yt, ye⟩) := Lib.hid ⟨bel_step HIW.out.1 hb, hcy.below hb⟩
        clear hb x0 x1 x2 y0 y1 y2 hcx hcy HI HIW
        go_wp2
        go_roundw
        case rel => exact ⟨i + 1, by go_num, by omega, Lib.hid ⟨HNx.out, HW2.out⟩⟩
        case measure => simp [intOf]; omega
      · have hvd : decide (v < 0) = false := decide_eq_false hv0
        by_cases hxt : x = t
        · have HPut := Lib.hid (HSame.out hxt)
          rw [decide_eq_true hxt] at HQ
          clear HNext HSame HIns hv0 hxt
          obtain ⟨xk, xt, xe⟩ := x
          obtain ⟨yk, yt, ye⟩ := t
          have x0 := fun p => (hcx.bel p).c0
          have x1 := fun p => (hcx.bel p).c1
          have x2 := fun p => (hcx.bel p).c2
          have y0 := fun p => (hcy.bel p).c0
          have y1 := fun p => (hcy.bel p).c1
          have y2 := fun p => (hcy.bel p).c2
          dsimp only at x0 x1 x2 y0 y1 y2
          unfold Ref5.termV at HCC
          dsimp only at HCC
          go_upto_region 2 with fail
          refine QT.region_all (by kernel_rfl) (by kernel_rfl) ?_
          iterate 10 (go_big_quiet_step (fail))
          go_big_quiet_step (exact QT.Bel.call _ (HCC.out _))
          iterate 2 (go_big_quiet_step (fail))
          refine wpQuiet_nil ?_
          intro w2 hw'
          obtain ⟨⟨_, hb⟩, rfl⟩ := hw'
          have HW2 : Hid (Below w.heap.size w w2 ∧ C3 w2 w.heap.size 0 ⟨yk, yt, ye⟩) := Lib.hid ⟨bel_step HIW.out.1 hb, hcy.below hb⟩
          have hcx := hcx.below hb
          have hcy := HW2.out.2
          clear hb x0 x1 x2 y0 y1 y2 HI HIW
          go_wp2
          obtain ⟨x0, x1, x2⟩ := id hcx
          obtain ⟨y0, y1, y2⟩ := id hcy
          simp only [Nat.zero_add] at y1 y2
          have hqq := HQ.out
          dsimp only at x0 x1 x2 y0 y1 y2 hqq
          go_upto_region 4 with fail
          go_quiet (fail)
          have HB3 := Lib.hid (bel_drewN HW2.out.1 nq)
          clear x0 x1 x2 y0 y1 y2 hcx hcy HW2 hqq
          go_wp2
          go_ret
          rw [HPut.out]
          exact ⟨_, _, rfl, termK.sl.mono (fun k hk _ => .inl hk) (termK.sl.move (fun k _ hlt => HB3.out.block k hlt) HLO.out), HB3.out⟩
        · have HPut := Lib.hid (HIns.out hv0 hxt)
          rw [decide_eq_false hxt] at HQ
          clear HNext HSame HIns hv0 hxt
          obtain ⟨xk, xt, xe⟩ := x
          obtain ⟨yk, yt, ye⟩ := t
          have x0 := fun p => (hcx.bel p).c0
          have x1 := fun p => (hcx.bel p).c1
          have x2 := fun p => (hcx.bel p).c2
          have y0 := fun p => (hcy.bel p).c0
          have y1 := fun p => (hcy.bel p).c1
          have y2 := fun p => (hcy.bel p).c2
          dsimp only at x0 x1 x2 y0 y1 y2
          unfold Ref5.termV at HCC
          dsimp only at HCC
          go_upto_region 2 with fail
          refine QT.region_all (by kernel_rfl) (by kernel_rfl) ?_
          iterate 10 (go_big_quiet_step (fail))
          go_big_quiet_step (exact QT.Bel.call _ (HCC.out _))
          iterate 2 (go_big_quiet_step (fail))
          refine wpQuiet_nil ?_
          intro w2 hw'
          obtain ⟨⟨_, hb⟩, rfl⟩ := hw'
          have HW2 : Hid (Below w.heap.size w w2 ∧ C3 w2 w.heap.size 0 ⟨yk, yt, ye⟩) := Lib.hid ⟨bel_step HIW.out.1 hb, hcy.below hb⟩
          have hcx := hcx.below hb
          have hcy := HW2.out.2
          clear hb x0 x1 x2 y0 y1 y2 HI HIW
          go_wp2
          obtain ⟨x0, x1, x2⟩ := id hcx
          obtain ⟨y0, y1, y2⟩ := id hcy
          simp only [Nat.zero_add] at y1 y2
          have hqq := HQ.out
          dsimp only at x0 x1 x2 y0 y1 y2 hqq
          go_upto_region 4 with fail
          go_quiet (fail)
          have hcz := hcy.below (bel_drewN (Below.refl _ _) nq)
          have HB3 := Lib.hid (bel_drewN HW2.out.1 nq)
          clear x0 x1 x2 y0 y1 y2 hcx hcy HW2 hqq
          generalize w2.drewN nq = w3 at *
          go_wp2
          obtain ⟨A1, -, -, htake, hrow1⟩ := Kd.cut_run (P := Tryz.prog) termK 31 24 Tryz.underlying31 cellsE Clones.zero_term 40 Clones.info_term (some ⟨b, off, none⟩) l.length c 0 i (Nat.zero_le _) hiL hlc ⟨hl47, hcm⟩ hA
          obtain ⟨A2, -, hdrop, -, hrow2⟩ := Kd.cut_run (P := Tryz.prog) termK 31 24 Tryz.underlying31 cellsE Clones.zero_term 40 Clones.info_term (some ⟨b, off, none⟩) l.length c i l.length hiL (Nat.le_refl _) hlc ⟨hl47, hcm⟩ hA
          have HQ1 := Lib.hid (hrow1 w TT l rfl HROW.out)
          have HQ2 := Lib.hid (hrow2 w TT l rfl HROW.out)
          rw [List.drop_zero] at HQ1
          rw [List.take_length] at HQ2
          obtain ⟨pre, hpre⟩ : ∃ pre, pre = l.take i := ⟨_, rfl⟩
          obtain ⟨suf, hsuf⟩ : ∃ suf, suf = l.drop i := ⟨_, rfl⟩
          have hpl : pre.length = i := by rw [hpre, List.length_take]; omega
          have hsl : suf.length = l.length - i := by rw [hsuf, List.length_drop]
          have hs1 : ∀ (kh : IntKind) (w : World), (Instr.slice 31 (.slice (some ⟨b, off, none⟩) l.length c) none (some (.int kh (i : Int))) none).run Tryz.prog w = .ok (.slice A1 pre.length c) w := fun kh w => by rw [hpl]; exact htake kh w rfl
          obtain ⟨c2, hc2⟩ : ∃ c2, c2 = c - i := ⟨_, rfl⟩
          have hs2 : ∀ (kl : IntKind) (w : World), (Instr.slice 31 (.slice (some ⟨b, off, none⟩) l.length c) (some (.int kl (i : Int))) none none).run Tryz.prog w = .ok (.slice A2 suf.length c2) w := fun kl w => by rw [hsl, hc2]; exact hdrop kl w rfl
          rw [Nat.sub_zero, Nat.sub_zero, ← hpre, ← hpl] at HQ1
          rw [← hsuf, ← hsl, ← hc2] at HQ2
          rw [← hpre, ← hsuf] at HPut
          have hbp : pre.length ≤ 1000000 := by omega
          have hbs2 : suf.length ≤ 1000000 := by omega
          clear htake hdrop hrow1 hrow2 hpre hsuf hc2
          clear hpl hsl
          have HZ := Lib.hid hcz
          have hB := HB3.out
          have hY := Below.refl w3.heap.size w3
          obtain ⟨n0, n1, n2⟩ := hcz
          simp only [Nat.zero_add] at n1 n2
          dsimp only at n0 n1 n2
          go_cut [4] (fun v4 wx => Hid (termK.own 24 wx w3.heap.size TT v4 (pre ++ [⟨yk, yt, ye⟩] ++ suf)) ∧ Hid (Below w.heap.size w wx))
          case first =>
            go_region_held3 (fun w' => w'.cell? ⟨w.heap.size, 0, none⟩ = some (Value.int .i64 yk) ∧ w'.cell? ⟨w.heap.size, 1, none⟩ = some (Value.string (mkS yt)) ∧ w'.cell? ⟨w.heap.size, 2, none⟩ = some (Value.string (mkS ye)))
              (exact three (HZ.out.below (by (repeat (first | assumption | exact Below.refl _ _ | refine bel_alloc ?_ _ | refine bel_drew ?_)))))
              (first
                | (refine Kd.own_app_step termK (w0 := w3) w3.heap.size (by rfl) (.tmp 34) (.tmp 37) 31 24 Clones.zero_term 40 (by rfl) Tryz.underlying31 Clones.info_term rfl (by decide) (.slice (some ⟨w3.heap.size, 0, none⟩) 0 0) [] pre A1 c TT (by rfl) (by rfl) ?ho (.inr ⟨?hr, Clones.any_term⟩) ?hb ?hs ?hl ?_; go_loud (case hl => simp; omega); go_loud (case ho => first | exact own0_1 _ | exact Kd.own_drew (own0_1 _) | exact Kd.own_drew (Kd.own_alloc (own0_1 _) _) | exact Kd.own_drew (own0_2 _ _)); go_loud (case hr => exact Kd.M_below HQ1.out (by (repeat (first | assumption | exact Below.refl _ _ | refine bel_alloc ?_ _ | refine bel_drew ?_)))); go_loud (case hb => repeat (first | assumption | exact Below.refl _ _ | refine bel_alloc ?_ _ | refine bel_drew ?_)); go_loud (case hs => simp; try omega); intro v1 w1 ho1 hb1 hg1 hv1; go_loud (rw [List.nil_append] at ho1); have HO1 := Lib.hid ho1; clear ho1 hv1)
                | (refine Kd.own_app_step termK (w0 := w3) w3.heap.size (by rfl) (.tmp 34) (.tmp 37) 31 24 Clones.zero_term 40 (by rfl) Tryz.underlying31 Clones.info_term rfl (by decide) (.slice (some ⟨w3.heap.size + 1, 0, none⟩) 0 0) [] pre A1 c TT (by rfl) (by rfl) ?ho (.inr ⟨?hr, Clones.any_term⟩) ?hb ?hs ?hl ?_; go_loud (case hl => simp; omega); go_loud (case ho => first | exact own0_1 _ | exact Kd.own_drew (own0_1 _) | exact Kd.own_drew (Kd.own_alloc (own0_1 _) _) | exact Kd.own_drew (own0_2 _ _)); go_loud (case hr => exact Kd.M_below HQ1.out (by (repeat (first | assumption | exact Below.refl _ _ | refine bel_alloc ?_ _ | refine bel_drew ?_)))); go_loud (case hb => repeat (first | assumption | exact Below.refl _ _ | refine bel_alloc ?_ _ | refine bel_drew ?_)); go_loud (case hs => simp; try omega); intro v1 w1 ho1 hb1 hg1 hv1; go_loud (rw [List.nil_append] at ho1); have HO1 := Lib.hid ho1; clear ho1 hv1)
                | (refine Kd.own_app_step termK (w0 := w3) w3.heap.size (by rfl) (.tmp 38) (.tmp 40) 31 24 Clones.zero_term 40 (by rfl) Tryz.underlying31 Clones.info_term rfl (by decide) v1 pre [⟨yk, yt, ye⟩] _ 1 TT (by rfl) (by rfl) ?ho (.inr ⟨?hr, Clones.any_term⟩) ?hb ?hs ?hl ?_; go_loud (case hl => simp; omega); go_loud (case ho => repeat (first | exact HO1.out | refine Kd.own_drew ?_ | refine Kd.own_alloc ?_ _)); go_loud (case hr => first | exact one_row _ ⟨yk, yt, ye⟩ hft | (refine one_grown hft ?_ hg1 ?_; (first | exact C3_new1 _ _ ⟨yk, yt, ye⟩ | exact C3_new2 _ ⟨yk, yt, ye⟩ _); (simp [Value.ownBlock]))); go_loud (case hb => repeat (first | assumption | exact Below.refl _ _ | refine bel_alloc ?_ _ | refine bel_drew ?_)); go_loud (case hs => have := hb1.size; first | omega | (simp; omega)); intro v2 w4 ho2 hb2 hg2 hv2; have HO2 := Lib.hid ho2; clear ho2 hg2 hv2)
                | (refine Kd.own_app_step termK (w0 := w3) w3.heap.size (by rfl) (.tmp 41) (.tmp 44) 31 24 Clones.zero_term 40 (by rfl) Tryz.underlying31 Clones.info_term rfl (by decide) v2 (pre ++ [⟨yk, yt, ye⟩]) suf A2 c2 TT (by rfl) (by rfl) ?ho (.inr ⟨?hr, Clones.any_term⟩) ?hb ?hs ?hl ?_; go_loud (case hl => simp; omega); go_loud (case ho => repeat (first | exact HO2.out | refine Kd.own_drew ?_ | refine Kd.own_alloc ?_ _)); go_loud (case hr => exact Kd.M_below HQ2.out (bel_step hB (by (repeat (first | assumption | exact Below.refl _ _ | refine bel_alloc ?_ _ | refine bel_drew ?_))))); go_loud (case hb => repeat (first | assumption | exact Below.refl _ _ | refine bel_alloc ?_ _ | refine bel_drew ?_)); go_loud (case hs => have := hb2.size; first | omega | (simp; omega)); intro v3 w5 ho3 hb3 hg3 hv3; have HO3 := Lib.hid ho3; clear ho3 hg3 hv3)
                | fail)
            all_goals (go_wp2_with fail; go_meet; exact ⟨HO3, Lib.hid (bel_step hB hb3)⟩)
          case rest =>
            obtain ⟨HO, HB6⟩ := hcut
            obtain ⟨A9, c9, rfl, _, _⟩ := Kd.own_slice HO.out
            have HM9 := Lib.hid (Kd.own_sl (ok' := fun k => ok k ∨ w.heap.size ≤ k) (StoreW.own_any (ok' := fun _ => False) Clones.any_term HO.out) (fun k hk => .inr (Nat.le_trans HB3.out.size hk)) (fun k hk => False.elim hk))
            rw [← HPut.out] at HM9
            rw [← HPut.out]
            clear HO
            go_wp2
            go_ret
            exact ⟨_, _, rfl, HM9.out, HB6.out⟩
    · have hd : decide (i < l.length) = false := decide_eq_false hlt
      have HPut : Hid (putL l t = l.take i ++ [t] ++ l.drop i) := Lib.hid (put_ins l t i hiL HI.out.1 (fun h => absurd h hlt))
      have HIW := Lib.hid HI.out.2
      clear HI hlt
      obtain ⟨yk, yt, ye⟩ := t
      go_upto_region 2 with fail
      go_quiet (fail)
      go_wp2
      go_upto_region 4 with fail
      go_quiet (fail)
      go_upto_region 6 with fail
      generalize hwy : World.drewN _ _ = w3 at *
      have HB3 : Hid (Below w.heap.size w w3) := Lib.hid (by subst hwy; exact bel_drewN (bel_drewN HIW.out.1 _) _)
      have hcz : C3 w3 w.heap.size 0 ⟨yk, yt, ye⟩ := by subst hwy; exact HIW.out.2.moved rfl
      clear hwy HIW
      obtain ⟨A1, -, -, htake, hrow1⟩ := Kd.cut_run (P := Tryz.prog) termK 31 24 Tryz.underlying31 cellsE Clones.zero_term 40 Clones.info_term (A) l.length c 0 i (Nat.zero_le _) hiL hlc ⟨hl47, hcm⟩ hA
      obtain ⟨A2, -, hdrop, -, hrow2⟩ := Kd.cut_run (P := Tryz.prog) termK 31 24 Tryz.underlying31 cellsE Clones.zero_term 40 Clones.info_term (A) l.length c i l.length hiL (Nat.le_refl _) hlc ⟨hl47, hcm⟩ hA
      have HQ1 := Lib.hid (hrow1 w TT l rfl HROW.out)
      have HQ2 := Lib.hid (hrow2 w TT l rfl HROW.out)
      rw [List.drop_zero] at HQ1
      rw [List.take_length] at HQ2
      obtain ⟨pre, hpre⟩ : ∃ pre, pre = l.take i := ⟨_, rfl⟩
      obtain ⟨suf, hsuf⟩ : ∃ suf, suf = l.drop i := ⟨_, rfl⟩
      have hpl : pre.length = i := by rw [hpre, List.length_take]; omega
      have hsl : suf.length = l.length - i := by rw [hsuf, List.length_drop]
      have hs1 : ∀ (kh : IntKind) (w : World), (Instr.slice 31 (.slice (A) l.length c) none (some (.int kh (i : Int))) none).run Tryz.prog w = .ok (.slice A1 pre.length c) w := fun kh w => by rw [hpl]; exact htake kh w rfl
      obtain ⟨c2, hc2⟩ : ∃ c2, c2 = c - i := ⟨_, rfl⟩
      have hs2 : ∀ (kl : IntKind) (w : World), (Instr.slice 31 (.slice (A) l.length c) (some (.int kl (i : Int))) none none).run Tryz.prog w = .ok (.slice A2 suf.length c2) w := fun kl w => by rw [hsl, hc2]; exact hdrop kl w rfl
      rw [Nat.sub_zero, Nat.sub_zero, ← hpre, ← hpl] at HQ1
      rw [← hsuf, ← hsl, ← hc2] at HQ2
      rw [← hpre, ← hsuf] at HPut
      have hbp : pre.length ≤ 1000000 := by omega
      have hbs2 : suf.length ≤ 1000000 := by omega
      clear htake hdrop hrow1 hrow2 hpre hsuf hc2
      clear hpl hsl
      have HZ := Lib.hid hcz
      have hB := HB3.out
      have hY := Below.refl w3.heap.size w3
      obtain ⟨n0, n1, n2⟩ := hcz
      simp only [Nat.zero_add] at n1 n2
      dsimp only at n0 n1 n2
      go_cut [4] (fun v4 wx => Hid (termK.own 24 wx w3.heap.size TT v4 (pre ++ [⟨yk, yt, ye⟩] ++ suf)) ∧ Hid (Below w.heap.size w wx))
      case first =>
        go_region_held3 (fun w' => w'.cell? ⟨w.heap.size, 0, none⟩ = some (Value.int .i64 yk) ∧ w'.cell? ⟨w.heap.size, 1, none⟩ = some (Value.string (mkS yt)) ∧ w'.cell? ⟨w.heap.size, 2, none⟩ = some (Value.string (mkS ye)))
          (exact three (HZ.out.below (by (repeat (first | assumption | exact Below.refl _ _ | refine bel_alloc ?_ _ | refine bel_drew ?_)))))
          (first
            | (refine Kd.own_app_step termK (w0 := w3) w3.heap.size (by rfl) (.tmp 34) (.tmp 37) 31 24 Clones.zero_term 40 (by rfl) Tryz.underlying31 Clones.info_term rfl (by decide) (.slice (some ⟨w3.heap.size, 0, none⟩) 0 0) [] pre A1 c TT (by rfl) (by rfl) ?ho (.inr ⟨?hr, Clones.any_term⟩) ?hb ?hs ?hl ?_; go_loud (case hl => simp; omega); go_loud (case ho => first | exact own0_1 _ | exact Kd.own_drew (own0_1 _) | exact Kd.own_drew (Kd.own_alloc (own0_1 _) _) | exact Kd.own_drew (own0_2 _ _)); go_loud (case hr => exact Kd.M_below HQ1.out (by (repeat (first | assumption | exact Below.refl _ _ | refine bel_alloc ?_ _ | refine bel_drew ?_)))); go_loud (case hb => repeat (first | assumption | exact Below.refl _ _ | refine bel_alloc ?_ _ | refine bel_drew ?_)); go_loud (case hs => simp; try omega); intro v1 w1 ho1 hb1 hg1 hv1; go_loud (rw [List.nil_append] at ho1); have HO1 := Lib.hid ho1; clear ho1 hv1)
            | (refine Kd.own_app_step termK (w0 := w3) w3.heap.size (by rfl) (.tmp 34) (.tmp 37) 31 24 Clones.zero_term 40 (by rfl) Tryz.underlying31 Clones.info_term rfl (by decide) (.slice (some ⟨w3.heap.size + 1, 0, none⟩) 0 0) [] pre A1 c TT (by rfl) (by rfl) ?ho (.inr ⟨?hr, Clones.any_term⟩) ?hb ?hs ?hl ?_; go_loud (case hl => simp; omega); go_loud (case ho => first | exact own0_1 _ | exact Kd.own_drew (own0_1 _) | exact Kd.own_drew (Kd.own_alloc (own0_1 _) _) | exact Kd.own_drew (own0_2 _ _)); go_loud (case hr => exact Kd.M_below HQ1.out (by (repeat (first | assumption | exact Below.refl _ _ | refine bel_alloc ?_ _ | refine bel_drew ?_)))); go_loud (case hb => repeat (first | assumption | exact Below.refl _ _ | refine bel_alloc ?_ _ | refine bel_drew ?_)); go_loud (case hs => simp; try omega); intro v1 w1 ho1 hb1 hg1 hv1; go_loud (rw [List.nil_append] at ho1); have HO1 := Lib.hid ho1; clear ho1 hv1)
            | (refine Kd.own_app_step termK (w0 := w3) w3.heap.size (by rfl) (.tmp 38) (.tmp 40) 31 24 Clones.zero_term 40 (by rfl) Tryz.underlying31 Clones.info_term rfl (by decide) v1 pre [⟨yk, yt, ye⟩] _ 1 TT (by rfl) (by rfl) ?ho (.inr ⟨?hr, Clones.any_term⟩) ?hb ?hs ?hl ?_; go_loud (case hl => simp; omega); go_loud (case ho => repeat (first | exact HO1.out | refine Kd.own_drew ?_ | refine Kd.own_alloc ?_ _)); go_loud (case hr => first | exact one_row _ ⟨yk, yt, ye⟩ hft | (refine one_grown hft ?_ hg1 ?_; (first | exact C3_new1 _ _ ⟨yk, yt, ye⟩ | exact C3_new2 _ ⟨yk, yt, ye⟩ _); (simp [Value.ownBlock]))); go_loud (case hb => repeat (first | assumption | exact Below.refl _ _ | refine bel_alloc ?_ _ | refine bel_drew ?_)); go_loud (case hs => have := hb1.size; first | omega | (simp; omega)); intro v2 w4 ho2 hb2 hg2 hv2; have HO2 := Lib.hid ho2; clear ho2 hg2 hv2)
            | (refine Kd.own_app_step termK (w0 := w3) w3.heap.size (by rfl) (.tmp 41) (.tmp 44) 31 24 Clones.zero_term 40 (by rfl) Tryz.underlying31 Clones.info_term rfl (by decide) v2 (pre ++ [⟨yk, yt, ye⟩]) suf A2 c2 TT (by rfl) (by rfl) ?ho (.inr ⟨?hr, Clones.any_term⟩) ?hb ?hs ?hl ?_; go_loud (case hl => simp; omega); go_loud (case ho => repeat (first | exact HO2.out | refine Kd.own_drew ?_ | refine Kd.own_alloc ?_ _)); go_loud (case hr => exact Kd.M_below HQ2.out (bel_step hB (by (repeat (first | assumption | exact Below.refl _ _ | refine bel_alloc ?_ _ | refine bel_drew ?_))))); go_loud (case hb => repeat (first | assumption | exact Below.refl _ _ | refine bel_alloc ?_ _ | refine bel_drew ?_)); go_loud (case hs => have := hb2.size; first | omega | (simp; omega)); intro v3 w5 ho3 hb3 hg3 hv3; have HO3 := Lib.hid ho3; clear ho3 hg3 hv3)
            | fail)
        all_goals (go_wp2_with fail; go_meet; exact ⟨HO3, Lib.hid (bel_step hB hb3)⟩)
      case rest =>
        obtain ⟨HO, HB6⟩ := hcut
        obtain ⟨A9, c9, rfl, _, _⟩ := Kd.own_slice HO.out
        have HM9 := Lib.hid (Kd.own_sl (ok' := fun k => ok k ∨ w.heap.size ≤ k) (StoreW.own_any (ok' := fun _ => False) Clones.any_term HO.out) (fun k hk => .inr (Nat.le_trans HB3.out.size hk)) (fun k hk => False.elim hk))
        rw [← HPut.out] at HM9
        rw [← HPut.out]
        clear HO
        go_wp2
        go_ret
        exact ⟨_, _, rfl, HM9.out, HB6.out⟩
end Go.Proofs.YtnplommdgfgboaaGreatDoor.PutE
