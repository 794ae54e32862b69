/-
  Texts of the claim, one behind the other: SymG1, SymG2, Sym, Stable, Clone, Compact, Compact2.
-/
import Derived.Test.YtmcoloapiiakbaaGreatDoorM5
/-
  slices.symMergeCmpFunc, walked: the parts, the left one longer.
-/
set_option linter.unusedVariables false
set_option linter.unusedSimpArgs false
namespace Go.Proofs.YtmcoloapiiakbaaGreatDoor.SortW
open Go.RowKit Go.Lib Go.Proofs.YtmcoloapiiakbaaGreatDoor.B Go.Proofs.YtmcoloapiiakbaaGreatDoor.Rd Go.Proofs.YtmcoloapiiakbaaGreatDoor.Utf Go.Proofs.YtmcoloapiiakbaaGreatDoor.TermPure Go.Proofs.YtmcoloapiiakbaaGreatDoor.LinesPure Go.Proofs.YtmcoloapiiakbaaGreatDoor.Tx Go.Proofs.YtmcoloapiiakbaaGreatDoor.Env Go.Proofs.YtmcoloapiiakbaaGreatDoor.Tri Go.Proofs.YtmcoloapiiakbaaGreatDoor.SortP Go.Proofs.YtmcoloapiiakbaaGreatDoor.Print Go.Proofs.YtmcoloapiiakbaaGreatDoor.Cmp Go.Proofs.YtmcoloapiiakbaaGreatDoor.Long

/-- What symMerge answers of rows no longer than so. -/
def SymC (L cap g : Nat) (W : World) (N : Nat) : Prop := ∀ (P A B Q : List Triple) (a m b : Nat) (w : World), A.length + B.length ≤ N → 0 < A.length → 0 < B.length → (P ++ (A ++ (B ++ Q))).length = L →
    a = P.length → m = a + A.length → b = m + B.length → Sorted' A → Sorted' B → (∀ t ∈ A ++ B, SmallT t) → SR W g (P ++ (A ++ (B ++ Q))) w → Calls Tryz.prog 100 #[.slice (some ⟨g, 0, none⟩) L cap, .int .i64 a, .int .i64 m, .int .i64 b, cmpV] w fun e w' => e = .returned (.tuple #[]) ∧ ∃ R, R.Perm (A ++ B) ∧ Sorted' R ∧ SR W g (P ++ (R ++ Q)) w'
set_option maxHeartbeats 25600000 in
set_option maxRecDepth 100000 in
theorem sym_gen1 (L cap : Nat) (hLs : L ≤ 140737488355328) (g : Nat) (W : World) (N : Nat) (hIH : SymC L cap g W N) (P A B Q : List Triple) (a m b : Nat) (w : World) (hN : A.length + B.length ≤ N + 1) (hA0 : 0 < A.length) (hB0 : 0 < B.length) (hL : (P ++ (A ++ (B ++ Q))).length = L) (ha : a = P.length) (hm : m = a + A.length) (hb : b = m + B.length) (hA : Sorted' A) (hB : Sorted' B) (hsm : ∀ t ∈ A ++ B, SmallT t) (hS : SR W g (P ++ (A ++ (B ++ Q))) w) (c1 : ¬ A.length = 1) (c2 : ¬ B.length = 1) (hcase : (a + b) / 2 < m) :
    Calls Tryz.prog 100 #[.slice (some ⟨g, 0, none⟩) L cap, .int .i64 a, .int .i64 m, .int .i64 b, cmpV] w fun e w' => e = .returned (.tuple #[]) ∧ ∃ R, R.Perm (A ++ B) ∧ Sorted' R ∧ SR W g (P ++ (R ++ Q)) w' := by
  have hlen := hL
  simp only [List.length_append] at hlen
  have IH := Lib.hid hIH
  obtain ⟨d0, hd0⟩ : ∃ d0, d0 = m - a := ⟨_, rfl⟩
  have w0 : IntKind.i64.wrap ((m : Int) - (a : Int)) = (d0 : Int) := by rw [IntKind.wrap_i64]; omega
  have w00 : ((d0 : Int) == 1) = false := by rw [beq_eq_false_iff_ne]; omega
  obtain ⟨d1, hd1⟩ : ∃ d1, d1 = b - m := ⟨_, rfl⟩
  have w1 : IntKind.i64.wrap ((b : Int) - (m : Int)) = (d1 : Int) := by rw [IntKind.wrap_i64]; omega
  have w11 : ((d1 : Int) == 1) = false := by rw [beq_eq_false_iff_ne]; omega
  obtain ⟨mid, hmid⟩ : ∃ mid, mid = (a + b) / 2 := ⟨_, rfl⟩
  have hq : ((a : Int) + (b : Int)) / 2 = (mid : Int) := by omega
  obtain ⟨n, hn⟩ : ∃ n, n = mid + m := ⟨_, rfl⟩
  have wn : IntKind.i64.wrap ((mid : Int) + (m : Int)) = (n : Int) := by rw [IntKind.wrap_i64]; omega
  obtain ⟨p, hp⟩ : ∃ p, p + 1 = n := ⟨n - 1, by omega⟩
  have wp : IntKind.i64.wrap ((n : Int) - 1) = (p : Int) := by rw [IntKind.wrap_i64]; omega
  rw [← hmid] at hcase
  obtain ⟨s0, hs0⟩ : ∃ s0, s0 + b = n := ⟨n - b, by omega⟩
  have HSR : Hid ((mid < m ∧ s0 + b = n ∧ mid = mid) ∨ (m ≤ mid ∧ s0 = a ∧ mid = m)) := Lib.hid (.inl ⟨hcase, hs0, rfl⟩)
  have hdm : decide (mid < m) = true := decide_eq_true hcase
  have ws : IntKind.i64.wrap ((n : Int) - (b : Int)) = (s0 : Int) := by rw [IntKind.wrap_i64]; omega
  have hbds : a ≤ s0 ∧ s0 ≤ mid ∧ mid ≤ m ∧ s0 ≤ n := by omega
  have hin : ∀ c, s0 ≤ c → c < mid → m ≤ p - c ∧ p - c < b ∧ a ≤ c ∧ c < m ∧ c ≤ p := fun c h1 h2 => by omega
  clear hs0
  obtain ⟨hb1, hb2, hb3, hb4⟩ := hbds
  have hbL : b ≤ L := by omega
  have ham : a < m := by omega
  have hmb : m < b := by omega
  have hamid : a < mid := by omega
  have hmidb : mid < b := by omega
  have HIn := Lib.hid hin
  have HA := Lib.hid (show a = P.length ∧ m = P.length + A.length ∧ b = m + B.length ∧ mid = (a + b) / 2 ∧ n = mid + m ∧ p + 1 = n ∧ A.length + B.length ≤ N + 1 from ⟨ha, by omega, hb, hmid, hn, hp, hN⟩)
  have HAs := Lib.hid hA
  have HBs := Lib.hid hB
  have HSm := Lib.hid hsm
  have HS0 := Lib.hid hS
  have HL := Lib.hid hL
  clear hin hS hL hlen ha hb hA hB hsm hm hd0 hd1 hmid hn hp c1 c2 hA0 hB0 hN hIH
  unfold cmpV at *
  go_enter Tryz.func100, Tryz.ntmps100
  go_wp2
  go_loopw [20, 21] (fun vi vj wr => ∃ i j : Nat, vi = .int .i64 i ∧ vj = .int .i64 j ∧ s0 ≤ i ∧ i ≤ j ∧ j ≤ mid ∧ Hid ((i = s0 ∨ ∃ u v, A[i - 1 - a]? = some u ∧ B[n - i - m]? = some v ∧ ¬ ltT v u) ∧ (j = mid ∨ ∃ u v, A[j - a]? = some u ∧ B[p - j - m]? = some v ∧ ltT v u) ∧ SR W g (P ++ (A ++ (B ++ Q))) wr)) (fun vi vj _ => (intOf vj).toNat - (intOf vi).toNat)
  case atStart => exact ⟨s0, mid, rfl, rfl, by omega, by omega, by omega, Lib.hid ⟨.inl rfl, .inl rfl, HS0.out⟩⟩
  case round =>
  obtain ⟨i, j, rfl, rfl, hmi, hij, hjb, HR⟩ := hrel
  clear HS0 w0 w00 w1 w11 hq wn ws
  by_cases hlt : i < j
  · have hd : decide (i < j) = true := decide_eq_true hlt
    obtain ⟨h, hh⟩ : ∃ h, h = (i + j) / 2 := ⟨_, rfl⟩
    have hq : ((i : Int) + (j : Int)) / 2 = (h : Int) := by omega
    have hih : i ≤ h := by omega
    have hhj : h < j := by omega
    clear hh
    obtain ⟨i1, i2, i3, i4, i5⟩ := HIn.out h (by omega) (by omega)
    obtain ⟨pc, hpc⟩ : ∃ pc, pc = p - h := ⟨_, rfl⟩
    have wpc : IntKind.i64.wrap ((p : Int) - (h : Int)) = (pc : Int) := by rw [IntKind.wrap_i64]; omega
    have hhb : (h : Int) < (L : Int) := by omega
    have hab : (pc : Int) < (L : Int) := by omega
    have hAl : h - a < A.length := by have h1 := HA.out.1; have h2 := HA.out.2.1; omega
    have hBl : pc - m < B.length := by have h1 := HA.out.2.2.1; omega
    obtain ⟨x, hu⟩ : ∃ x, A[h - a]? = some x := ⟨_, List.getElem?_eq_getElem hAl⟩
    obtain ⟨y, hv⟩ : ∃ y, B[pc - m]? = some y := ⟨_, List.getElem?_eq_getElem hBl⟩
    have hrow : (P ++ (A ++ (B ++ Q)))[h]? = some x := by
      rw [← hu, ← at_A (P := P) (A := A) (B := B) (Q := Q) hAl]
      congr 1
      have := HA.out.1
      omega
    have hrow0 : (P ++ (A ++ (B ++ Q)))[pc]? = some y := by
      rw [← hv, ← at_B (P := P) (A := A) (B := B) (Q := Q) hBl]
      congr 1
      have := HA.out.2.1
      omega
    have hcu := HR.out.2.2.at hrow
    have hcv := HR.out.2.2.at hrow0
    have hgl := hcu.lt
    have HBk : Hid (∀ w2, Below wr.heap.size wr w2 → SR W g (P ++ (A ++ (B ++ Q))) w2) := Lib.hid (fun w2 hb => HR.out.2.2.below hgl hb)
    have HC := Lib.hid (fun w => cmp_calls y x (HSm.out y (List.mem_append_right _ (List.mem_of_getElem? hv))) (HSm.out x (List.mem_append_left _ (List.mem_of_getElem? hu))) w)
    have HLt : Hid (cmpT y x < 0 ↔ ltT y x) := Lib.hid Iff.rfl
    have HU : Hid (A[h - a]? = some x ∧ B[p - h - m]? = some y ∧ B[n - (h + 1) - m]? = some y) := Lib.hid ⟨hu, by rw [← hpc]; exact hv, by rw [← hv]; congr 1; have := HA.out.2.2.2.2.2.1; omega⟩
    have HI := Lib.hid HR.out.1
    have HJ := Lib.hid HR.out.2.1
    obtain ⟨r, hr⟩ : ∃ r, r = cmpT y x := ⟨_, rfl⟩
    rw [← hr] at HC HLt
    clear hr hu hv hrow hrow0 hAl hBl HR hpc
    by_cases hvn : r < 0
    · have hvd : decide (r < 0) = true := decide_eq_true hvn
      have HYL : Hid (ltT y x) := Lib.hid (HLt.out.1 hvn)
      have HJ2 : Hid (h = mid ∨ ∃ u v, A[h - a]? = some u ∧ B[p - h - m]? = some v ∧ ltT v u) := Lib.hid (.inr ⟨x, y, HU.out.1, HU.out.2.1, HYL.out⟩)
      clear hvn HLt HU HYL HJ
      obtain ⟨⟨sk', sx', se'⟩, ⟨pk', px', pe'⟩, ⟨ok', ox', oe'⟩⟩ := y
      obtain ⟨⟨sk, sx, se⟩, ⟨pk, px, pe⟩, ⟨ok, ox, oe⟩⟩ := x
      have y0 := fun p => (hcv.bel p).c0
      have y1 := fun p => (hcv.bel p).c1
      have y2 := fun p => (hcv.bel p).c2
      have y3 := fun p => (hcv.bel p).c3
      have y4 := fun p => (hcv.bel p).c4
      have y5 := fun p => (hcv.bel p).c5
      have y6 := fun p => (hcv.bel p).c6
      have y7 := fun p => (hcv.bel p).c7
      have y8 := fun p => (hcv.bel p).c8
      have x0 := fun p => (hcu.bel p).c0
      have x1 := fun p => (hcu.bel p).c1
      have x2 := fun p => (hcu.bel p).c2
      have x3 := fun p => (hcu.bel p).c3
      have x4 := fun p => (hcu.bel p).c4
      have x5 := fun p => (hcu.bel p).c5
      have x6 := fun p => (hcu.bel p).c6
      have x7 := fun p => (hcu.bel p).c7
      have x8 := fun p => (hcu.bel p).c8
      dsimp only at y0 y1 y2 y3 y4 y5 y6 y7 y8 x0 x1 x2 x3 x4 x5 x6 x7 x8
      unfold Ref5.tripleV at HC
      dsimp only at HC
      go_upto_region 35 with fail
      refine QT.region_all (by kernel_rfl) (by kernel_rfl) ?_
      iterate 11 (go_big_quiet_step (fail))
      go_big_quiet_step (exact QT.Bel.call _ (HC.out _))
      iterate 2 (go_big_quiet_step (fail))
      refine wpQuiet_nil ?_
      intro w2 hw'
      obtain ⟨⟨_, hb⟩, rfl⟩ := hw'
      have HS2 := Lib.hid (HBk.out w2 hb)
      clear hb y0 y1 y2 y3 y4 y5 y6 y7 y8 x0 x1 x2 x3 x4 x5 x6 x7 x8 hcu hcv
      go_wp2
      go_roundw
      case rel => exact ⟨i, h, rfl, by go_num, hmi, by omega, by omega, Lib.hid ⟨HI.out, HJ2.out, HS2.out⟩⟩
      case measure => simp [intOf]; omega
    · have hvd : decide (r < 0) = false := decide_eq_false hvn
      have HYL : Hid (¬ ltT y x) := Lib.hid (fun hl => hvn (HLt.out.2 hl))
      have HI2 : Hid (h + 1 = s0 ∨ ∃ u v, A[h + 1 - 1 - a]? = some u ∧ B[n - (h + 1) - m]? = some v ∧ ¬ ltT v u) := Lib.hid (.inr ⟨x, y, by rw [show h + 1 - 1 - a = h - a by omega]; exact HU.out.1, HU.out.2.2, HYL.out⟩)
      clear hvn HLt HU HYL HI
      obtain ⟨⟨sk', sx', se'⟩, ⟨pk', px', pe'⟩, ⟨ok', ox', oe'⟩⟩ := y
      obtain ⟨⟨sk, sx, se⟩, ⟨pk, px, pe⟩, ⟨ok, ox, oe⟩⟩ := x
      have y0 := fun p => (hcv.bel p).c0
      have y1 := fun p => (hcv.bel p).c1
      have y2 := fun p => (hcv.bel p).c2
      have y3 := fun p => (hcv.bel p).c3
      have y4 := fun p => (hcv.bel p).c4
      have y5 := fun p => (hcv.bel p).c5
      have y6 := fun p => (hcv.bel p).c6
      have y7 := fun p => (hcv.bel p).c7
      have y8 := fun p => (hcv.bel p).c8
      have x0 := fun p => (hcu.bel p).c0
      have x1 := fun p => (hcu.bel p).c1
      have x2 := fun p => (hcu.bel p).c2
      have x3 := fun p => (hcu.bel p).c3
      have x4 := fun p => (hcu.bel p).c4
      have x5 := fun p => (hcu.bel p).c5
      have x6 := fun p => (hcu.bel p).c6
      have x7 := fun p => (hcu.bel p).c7
      have x8 := fun p => (hcu.bel p).c8
      dsimp only at y0 y1 y2 y3 y4 y5 y6 y7 y8 x0 x1 x2 x3 x4 x5 x6 x7 x8
      unfold Ref5.tripleV at HC
      dsimp only at HC
      go_upto_region 35 with fail
      refine QT.region_all (by kernel_rfl) (by kernel_rfl) ?_
      iterate 11 (go_big_quiet_step (fail))
      go_big_quiet_step (exact QT.Bel.call _ (HC.out _))
      iterate 2 (go_big_quiet_step (fail))
      refine wpQuiet_nil ?_
      intro w2 hw'
      obtain ⟨⟨_, hb⟩, rfl⟩ := hw'
      have HS2 := Lib.hid (HBk.out w2 hb)
      clear hb y0 y1 y2 y3 y4 y5 y6 y7 y8 x0 x1 x2 x3 x4 x5 x6 x7 x8 hcu hcv
      go_wp2
      go_roundw
      case rel => exact ⟨h + 1, j, by go_num, rfl, by omega, by omega, hjb, Lib.hid ⟨HI2.out, HJ.out, HS2.out⟩⟩
      case measure => simp [intOf]; omega
  · have hd : decide (i < j) = false := decide_eq_false hlt
    obtain rfl : i = j := by omega
    obtain ⟨en, hen⟩ : ∃ en, en = n - i := ⟨_, rfl⟩
    have wen : IntKind.i64.wrap ((n : Int) - (i : Int)) = (en : Int) := by rw [IntKind.wrap_i64]; have := HA.out.2.2.2.2.1; omega
    have hbnd : a ≤ i ∧ i ≤ m ∧ m ≤ en ∧ en ≤ b ∧ mid + m = i + en ∧ i ≤ mid ∧ mid ≤ en := by
      have h1 := HA.out.2.2.2.2.1
      have h2 := HA.out.2.2.2.1
      rcases HSR.out with ⟨h3, h4, h5⟩ | ⟨h3, h4, h5⟩ <;> omega
    obtain ⟨n1, n2, n3, n4, n5, n6, n7⟩ := hbnd
    obtain ⟨A1, hA1⟩ : ∃ A1, A1 = A.take (i - a) := ⟨_, rfl⟩
    obtain ⟨A2, hA2⟩ : ∃ A2, A2 = A.drop (i - a) := ⟨_, rfl⟩
    obtain ⟨B1, hB1⟩ : ∃ B1, B1 = B.take (en - m) := ⟨_, rfl⟩
    obtain ⟨B2, hB2⟩ : ∃ B2, B2 = B.drop (en - m) := ⟨_, rfl⟩
    have HLn : Hid (A1.length = i - a ∧ A2.length = m - i ∧ B1.length = en - m ∧ B2.length = b - en) := Lib.hid (by
      have h1 := HA.out.1; have h2 := HA.out.2.1; have h3 := HA.out.2.2.1
      rw [hA1, hA2, hB1, hB2, List.length_take, List.length_drop, List.length_take, List.length_drop]
      omega)
    have HAB : Hid (A = A1 ++ A2 ∧ B = B1 ++ B2) := Lib.hid ⟨by rw [hA1, hA2, List.take_append_drop], by rw [hB1, hB2, List.take_append_drop]⟩
    have HHalf : Hid (∀ R1 R2, R1.Perm (A1 ++ B1) → R2.Perm (A2 ++ B2) → Sorted' R1 → Sorted' R2 → (R1 ++ R2).Perm (A ++ B) ∧ Sorted' (R1 ++ R2)) := Lib.hid (by
      intro R1 R2 p1 p2 s1 s2
      have h1 := HA.out.1; have h2 := HA.out.2.1; have h3 := HA.out.2.2.1; have h4 := HA.out.2.2.2.2.1; have h5 := HA.out.2.2.2.2.2.1
      refine halves (s := i - a) (e := en - m) HAs.out HBs.out ?_ ?_ (by rw [← hA1, ← hB1]; exact p1) (by rw [← hA2, ← hB2]; exact p2) s1 s2
      · rcases HR.out.1 with h | ⟨u, v, hu, hv, hl⟩
        · rcases HSR.out with ⟨h6, h7, h8⟩ | ⟨h6, h7, h8⟩
          · right; left; omega
          · left; omega
        · right; right
          exact ⟨u, v, by rw [← hu]; congr 1; omega, by rw [← hv]; congr 1; omega, hl⟩
      · rcases HR.out.2.1 with h | ⟨u, v, hu, hv, hl⟩
        · rcases HSR.out with ⟨h6, h7, h8⟩ | ⟨h6, h7, h8⟩
          · right; left; omega
          · left; omega
        · right; right
          exact ⟨v, u, by rw [← hv]; congr 1; omega, hu, ltT_asymm hl⟩)
    have HSm2 : Hid ((∀ t ∈ A1 ++ B1, SmallT t) ∧ (∀ t ∈ A2 ++ B2, SmallT t)) := Lib.hid (by
      have h := HSm.out
      rw [HAB.out.1, HAB.out.2] at h
      refine ⟨fun t ht => h t ?_, fun t ht => h t ?_⟩
      · rcases List.mem_append.1 ht with ht | ht <;> simp [ht]
      · rcases List.mem_append.1 ht with ht | ht <;> simp [ht])
    have HSt : Hid (Sorted' A1 ∧ Sorted' A2 ∧ Sorted' B1 ∧ Sorted' B2) := Lib.hid (by
      have hA := HAs.out
      have hB := HBs.out
      rw [HAB.out.1] at hA
      rw [HAB.out.2] at hB
      exact ⟨(List.pairwise_append.1 hA).1, (List.pairwise_append.1 hA).2.1, (List.pairwise_append.1 hB).1, (List.pairwise_append.1 hB).2.1⟩)
    have HRow : Hid (SR W g (P ++ (A1 ++ (A2 ++ (B1 ++ (B2 ++ Q))))) wr ∧ P.length + (A1.length + (A2.length + (B1.length + (B2.length + Q.length)))) = L) := Lib.hid (by
      have h := HR.out.2.2
      have hl := HL.out
      rw [HAB.out.1, HAB.out.2] at h hl
      refine ⟨by simpa [List.append_assoc] using h, ?_⟩
      simp only [List.length_append] at hl
      omega)
    clear HR HAs HBs HSm HL hA1 hA2 hB1 hB2 hen
    have HTot := Lib.hid HRow.out.2
    by_cases e1 : i < m
    · have x1 : decide (i < m) = true := decide_eq_true e1
      by_cases e2 : m < en
      · have x2 : decide (m < en) = true := decide_eq_true e2
        have HC := Lib.hid (rotate_calls (.func (.func 15) #[] #[]) (P ++ A1) A2 B1 (B2 ++ Q) (by have := HLn.out.2.1; omega) (by have := HLn.out.2.2.1; omega) L (by have := HRow.out.2; simp only [List.length_append]; omega) hLs i m en cap (by have h1 := HLn.out.1; have h2 := HA.out.1; rw [List.length_append]; omega) (by have := HLn.out.2.1; omega) (by have := HLn.out.2.2.1; omega) g W wr (by have := HRow.out.1; rw [List.append_assoc]; exact this))
        go_wp2_with fail
        refine HC.out.mono ?_
        rintro e w7 ⟨rfl, hS2⟩
        have HRow2 : Hid (SR W g (P ++ (A1 ++ (B1 ++ (A2 ++ (B2 ++ Q))))) w7) := Lib.hid (by rw [← List.append_assoc]; exact hS2)
        clear hS2 HRow HC
        by_cases e3 : a < i
        · have x3 : decide (a < i) = true := decide_eq_true e3
          by_cases e4 : i < mid
          · have x4 : decide (i < mid) = true := decide_eq_true e4
            have HC := Lib.hid (IH.out P A1 B1 (A2 ++ (B2 ++ Q)) a i mid w7 (by have h1 := HLn.out.1; have h2 := HLn.out.2.2.1; have h3 := HA.out; omega) (by have := HLn.out.1; omega) (by have := HLn.out.2.2.1; omega) (by have := HTot.out; simp only [List.length_append]; omega) HA.out.1 (by have := HLn.out.1; omega) (by have h2 := HLn.out.2.2.1; omega) HSt.out.1 HSt.out.2.2.1 HSm2.out.1 HRow2.out)
            go_wp2_with fail
            refine HC.out.mono ?_
            rintro e w8 ⟨rfl, R1, hp1, hs1, hS2⟩
            have HR1 := Lib.hid (show R1.Perm (A1 ++ B1) ∧ Sorted' R1 ∧ SR W g (P ++ (R1 ++ (A2 ++ (B2 ++ Q)))) w8 from ⟨hp1, hs1, hS2⟩)
            clear hp1 hs1 hS2 HRow2 HC
            have HL1 : Hid (R1.length = mid - a) := Lib.hid (by rw [HR1.out.1.length_eq, List.length_append, HLn.out.1, HLn.out.2.2.1]; omega)
            by_cases e5 : mid < en
            · have x5 : decide (mid < en) = true := decide_eq_true e5
              by_cases e6 : en < b
              · have x6 : decide (en < b) = true := decide_eq_true e6
                have HC := Lib.hid (IH.out (P ++ R1) A2 B2 Q mid en b w8 (by have h1 := HLn.out.2.1; have h2 := HLn.out.2.2.2; have h3 := HA.out; omega) (by have := HLn.out.2.1; omega) (by have := HLn.out.2.2.2; omega) (by have h0 := HTot.out; have h1 := HL1.out; have h2 := HLn.out; simp only [List.length_append]; omega) (by have h1 := HL1.out; have h2 := HA.out.1; rw [List.length_append]; omega) (by have := HLn.out.2.1; omega) (by have h2 := HLn.out.2.2.2; omega) HSt.out.2.1 HSt.out.2.2.2 HSm2.out.2 (by rw [List.append_assoc]; exact HR1.out.2.2))
                go_wp2_with fail
                refine HC.out.mono ?_
                rintro e w9 ⟨rfl, R2, hp2, hs2, hS2⟩
                have HEnd : Hid (∃ R, R.Perm (A ++ B) ∧ Sorted' R ∧ SR W g (P ++ (R ++ Q)) w9) := Lib.hid ⟨R1 ++ R2, (HHalf.out R1 R2 HR1.out.1 hp2 HR1.out.2.1 hs2).1, (HHalf.out R1 R2 HR1.out.1 hp2 HR1.out.2.1 hs2).2, by simpa [List.append_assoc] using hS2⟩
                clear hp2 hs2 hS2
                go_wp2
                go_end0
                exact ⟨rfl, HEnd.out⟩
              · have x6 : decide (en < b) = false := decide_eq_false e6
                have HEnd : Hid (∃ R, R.Perm (A ++ B) ∧ Sorted' R ∧ SR W g (P ++ (R ++ Q)) w8) := Lib.hid (by
                  have h0 : B2 = [] := List.eq_nil_of_length_eq_zero (by have := HLn.out.2.2.2; omega)
                  have h := HHalf.out R1 A2 HR1.out.1 (by rw [h0, List.append_nil]) HR1.out.2.1 HSt.out.2.1
                  have h2 := HR1.out.2.2
                  rw [h0] at h2
                  exact ⟨_, h.1, h.2, by simpa [List.append_assoc] using h2⟩)
                go_wp2
                go_end0
                exact ⟨rfl, HEnd.out⟩
            · have x5 : decide (mid < en) = false := decide_eq_false e5
              have HEnd : Hid (∃ R, R.Perm (A ++ B) ∧ Sorted' R ∧ SR W g (P ++ (R ++ Q)) w8) := Lib.hid (by
                have h0 : A2 = [] := List.eq_nil_of_length_eq_zero (by have := HLn.out.2.1; omega)
                have h := HHalf.out R1 B2 HR1.out.1 (by rw [h0, List.nil_append]) HR1.out.2.1 HSt.out.2.2.2
                have h2 := HR1.out.2.2
                rw [h0] at h2
                exact ⟨_, h.1, h.2, by simpa [List.append_assoc] using h2⟩)
              go_wp2
              go_end0
              exact ⟨rfl, HEnd.out⟩
          · have x4 : decide (i < mid) = false := decide_eq_false e4
            have HR1 : Hid (A1.Perm (A1 ++ B1) ∧ Sorted' A1 ∧ SR W g (P ++ (A1 ++ (A2 ++ (B2 ++ Q)))) w7) := Lib.hid (by
              have : B1 = [] := List.eq_nil_of_length_eq_zero (by have := HLn.out.2.2.1; omega)
              have h := HRow2.out
              rw [this] at h ⊢
              exact ⟨by rw [List.append_nil], HSt.out.1, h⟩)
            clear HRow2
            obtain ⟨R1, hR1⟩ : ∃ R1, R1 = A1 := ⟨_, rfl⟩
            have HR1 : Hid (R1.Perm (A1 ++ B1) ∧ Sorted' R1 ∧ SR W g (P ++ (R1 ++ (A2 ++ (B2 ++ Q)))) w7) := Lib.hid (by rw [hR1]; exact HR1.out)
            clear hR1
            have HL1 : Hid (R1.length = mid - a) := Lib.hid (by rw [HR1.out.1.length_eq, List.length_append, HLn.out.1, HLn.out.2.2.1]; omega)
            by_cases e5 : mid < en
            · have x5 : decide (mid < en) = true := decide_eq_true e5
              by_cases e6 : en < b
              · have x6 : decide (en < b) = true := decide_eq_true e6
                have HC := Lib.hid (IH.out (P ++ R1) A2 B2 Q mid en b w7 (by have h1 := HLn.out.2.1; have h2 := HLn.out.2.2.2; have h3 := HA.out; omega) (by have := HLn.out.2.1; omega) (by have := HLn.out.2.2.2; omega) (by have h0 := HTot.out; have h1 := HL1.out; have h2 := HLn.out; simp only [List.length_append]; omega) (by have h1 := HL1.out; have h2 := HA.out.1; rw [List.length_append]; omega) (by have := HLn.out.2.1; omega) (by have h2 := HLn.out.2.2.2; omega) HSt.out.2.1 HSt.out.2.2.2 HSm2.out.2 (by rw [List.append_assoc]; exact HR1.out.2.2))
                go_wp2_with fail
                refine HC.out.mono ?_
                rintro e w9 ⟨rfl, R2, hp2, hs2, hS2⟩
                have HEnd : Hid (∃ R, R.Perm (A ++ B) ∧ Sorted' R ∧ SR W g (P ++ (R ++ Q)) w9) := Lib.hid ⟨R1 ++ R2, (HHalf.out R1 R2 HR1.out.1 hp2 HR1.out.2.1 hs2).1, (HHalf.out R1 R2 HR1.out.1 hp2 HR1.out.2.1 hs2).2, by simpa [List.append_assoc] using hS2⟩
                clear hp2 hs2 hS2
                go_wp2
                go_end0
                exact ⟨rfl, HEnd.out⟩
              · have x6 : decide (en < b) = false := decide_eq_false e6
                have HEnd : Hid (∃ R, R.Perm (A ++ B) ∧ Sorted' R ∧ SR W g (P ++ (R ++ Q)) w7) := Lib.hid (by
                  have h0 : B2 = [] := List.eq_nil_of_length_eq_zero (by have := HLn.out.2.2.2; omega)
                  have h := HHalf.out R1 A2 HR1.out.1 (by rw [h0, List.append_nil]) HR1.out.2.1 HSt.out.2.1
                  have h2 := HR1.out.2.2
                  rw [h0] at h2
                  exact ⟨_, h.1, h.2, by simpa [List.append_assoc] using h2⟩)
                go_wp2
                go_end0
                exact ⟨rfl, HEnd.out⟩
            · have x5 : decide (mid < en) = false := decide_eq_false e5
              have HEnd : Hid (∃ R, R.Perm (A ++ B) ∧ Sorted' R ∧ SR W g (P ++ (R ++ Q)) w7) := Lib.hid (by
                have h0 : A2 = [] := List.eq_nil_of_length_eq_zero (by have := HLn.out.2.1; omega)
                have h := HHalf.out R1 B2 HR1.out.1 (by rw [h0, List.nil_append]) HR1.out.2.1 HSt.out.2.2.2
                have h2 := HR1.out.2.2
                rw [h0] at h2
                exact ⟨_, h.1, h.2, by simpa [List.append_assoc] using h2⟩)
              go_wp2
              go_end0
              exact ⟨rfl, HEnd.out⟩
        · have x3 : decide (a < i) = false := decide_eq_false e3
          have HR1 : Hid (B1.Perm (A1 ++ B1) ∧ Sorted' B1 ∧ SR W g (P ++ (B1 ++ (A2 ++ (B2 ++ Q)))) w7) := Lib.hid (by
            have : A1 = [] := List.eq_nil_of_length_eq_zero (by have := HLn.out.1; omega)
            have h := HRow2.out
            rw [this] at h ⊢
            exact ⟨List.Perm.refl _, HSt.out.2.2.1, h⟩)
          clear HRow2
          obtain ⟨R1, hR1⟩ : ∃ R1, R1 = B1 := ⟨_, rfl⟩
          have HR1 : Hid (R1.Perm (A1 ++ B1) ∧ Sorted' R1 ∧ SR W g (P ++ (R1 ++ (A2 ++ (B2 ++ Q)))) w7) := Lib.hid (by rw [hR1]; exact HR1.out)
          clear hR1
          have HL1 : Hid (R1.length = mid - a) := Lib.hid (by rw [HR1.out.1.length_eq, List.length_append, HLn.out.1, HLn.out.2.2.1]; omega)
          by_cases e5 : mid < en
          · have x5 : decide (mid < en) = true := decide_eq_true e5
            by_cases e6 : en < b
            · have x6 : decide (en < b) = true := decide_eq_true e6
              have HC := Lib.hid (IH.out (P ++ R1) A2 B2 Q mid en b w7 (by have h1 := HLn.out.2.1; have h2 := HLn.out.2.2.2; have h3 := HA.out; omega) (by have := HLn.out.2.1; omega) (by have := HLn.out.2.2.2; omega) (by have h0 := HTot.out; have h1 := HL1.out; have h2 := HLn.out; simp only [List.length_append]; omega) (by have h1 := HL1.out; have h2 := HA.out.1; rw [List.length_append]; omega) (by have := HLn.out.2.1; omega) (by have h2 := HLn.out.2.2.2; omega) HSt.out.2.1 HSt.out.2.2.2 HSm2.out.2 (by rw [List.append_assoc]; exact HR1.out.2.2))
              go_wp2_with fail
              refine HC.out.mono ?_
              rintro e w9 ⟨rfl, R2, hp2, hs2, hS2⟩
              have HEnd : Hid (∃ R, R.Perm (A ++ B) ∧ Sorted' R ∧ SR W g (P ++ (R ++ Q)) w9) := Lib.hid ⟨R1 ++ R2, (HHalf.out R1 R2 HR1.out.1 hp2 HR1.out.2.1 hs2).1, (HHalf.out R1 R2 HR1.out.1 hp2 HR1.out.2.1 hs2).2, by simpa [List.append_assoc] using hS2⟩
              clear hp2 hs2 hS2
              go_wp2
              go_end0
              exact ⟨rfl, HEnd.out⟩
            · have x6 : decide (en < b) = false := decide_eq_false e6
              have HEnd : Hid (∃ R, R.Perm (A ++ B) ∧ Sorted' R ∧ SR W g (P ++ (R ++ Q)) w7) := Lib.hid (by
                have h0 : B2 = [] := List.eq_nil_of_length_eq_zero (by have := HLn.out.2.2.2; omega)
                have h := HHalf.out R1 A2 HR1.out.1 (by rw [h0, List.append_nil]) HR1.out.2.1 HSt.out.2.1
                have h2 := HR1.out.2.2
                rw [h0] at h2
                exact ⟨_, h.1, h.2, by simpa [List.append_assoc] using h2⟩)
              go_wp2
              go_end0
              exact ⟨rfl, HEnd.out⟩
          · have x5 : decide (mid < en) = false := decide_eq_false e5
            have HEnd : Hid (∃ R, R.Perm (A ++ B) ∧ Sorted' R ∧ SR W g (P ++ (R ++ Q)) w7) := Lib.hid (by
              have h0 : A2 = [] := List.eq_nil_of_length_eq_zero (by have := HLn.out.2.1; omega)
              have h := HHalf.out R1 B2 HR1.out.1 (by rw [h0, List.nil_append]) HR1.out.2.1 HSt.out.2.2.2
              have h2 := HR1.out.2.2
              rw [h0] at h2
              exact ⟨_, h.1, h.2, by simpa [List.append_assoc] using h2⟩)
            go_wp2
            go_end0
            exact ⟨rfl, HEnd.out⟩
      · have x2 : decide (m < en) = false := decide_eq_false e2
        have HRow2 : Hid (SR W g (P ++ (A1 ++ (B1 ++ (A2 ++ (B2 ++ Q))))) wr) := Lib.hid (by
          have : B1 = [] := List.eq_nil_of_length_eq_zero (by have := HLn.out.2.2.1; omega)
          have h := HRow.out.1
          rw [this] at h ⊢
          exact h)
        clear HRow
        by_cases e3 : a < i
        · have x3 : decide (a < i) = true := decide_eq_true e3
          by_cases e4 : i < mid
          · have x4 : decide (i < mid) = true := decide_eq_true e4
            have HC := Lib.hid (IH.out P A1 B1 (A2 ++ (B2 ++ Q)) a i mid wr (by have h1 := HLn.out.1; have h2 := HLn.out.2.2.1; have h3 := HA.out; omega) (by have := HLn.out.1; omega) (by have := HLn.out.2.2.1; omega) (by have := HTot.out; simp only [List.length_append]; omega) HA.out.1 (by have := HLn.out.1; omega) (by have h2 := HLn.out.2.2.1; omega) HSt.out.1 HSt.out.2.2.1 HSm2.out.1 HRow2.out)
            go_wp2_with fail
            refine HC.out.mono ?_
            rintro e w8 ⟨rfl, R1, hp1, hs1, hS2⟩
            have HR1 := Lib.hid (show R1.Perm (A1 ++ B1) ∧ Sorted' R1 ∧ SR W g (P ++ (R1 ++ (A2 ++ (B2 ++ Q)))) w8 from ⟨hp1, hs1, hS2⟩)
            clear hp1 hs1 hS2 HRow2 HC
            have HL1 : Hid (R1.length = mid - a) := Lib.hid (by rw [HR1.out.1.length_eq, List.length_append, HLn.out.1, HLn.out.2.2.1]; omega)
            by_cases e5 : mid < en
            · have x5 : decide (mid < en) = true := decide_eq_true e5
              by_cases e6 : en < b
              · have x6 : decide (en < b) = true := decide_eq_true e6
                have HC := Lib.hid (IH.out (P ++ R1) A2 B2 Q mid en b w8 (by have h1 := HLn.out.2.1; have h2 := HLn.out.2.2.2; have h3 := HA.out; omega) (by have := HLn.out.2.1; omega) (by have := HLn.out.2.2.2; omega) (by have h0 := HTot.out; have h1 := HL1.out; have h2 := HLn.out; simp only [List.length_append]; omega) (by have h1 := HL1.out; have h2 := HA.out.1; rw [List.length_append]; omega) (by have := HLn.out.2.1; omega) (by have h2 := HLn.out.2.2.2; omega) HSt.out.2.1 HSt.out.2.2.2 HSm2.out.2 (by rw [List.append_assoc]; exact HR1.out.2.2))
                go_wp2_with fail
                refine HC.out.mono ?_
                rintro e w9 ⟨rfl, R2, hp2, hs2, hS2⟩
                have HEnd : Hid (∃ R, R.Perm (A ++ B) ∧ Sorted' R ∧ SR W g (P ++ (R ++ Q)) w9) := Lib.hid ⟨R1 ++ R2, (HHalf.out R1 R2 HR1.out.1 hp2 HR1.out.2.1 hs2).1, (HHalf.out R1 R2 HR1.out.1 hp2 HR1.out.2.1 hs2).2, by simpa [List.append_assoc] using hS2⟩
                clear hp2 hs2 hS2
                go_wp2
                go_end0
                exact ⟨rfl, HEnd.out⟩
              · have x6 : decide (en < b) = false := decide_eq_false e6
                have HEnd : Hid (∃ R, R.Perm (A ++ B) ∧ Sorted' R ∧ SR W g (P ++ (R ++ Q)) w8) := Lib.hid (by
                  have h0 : B2 = [] := List.eq_nil_of_length_eq_zero (by have := HLn.out.2.2.2; omega)
                  have h := HHalf.out R1 A2 HR1.out.1 (by rw [h0, List.append_nil]) HR1.out.2.1 HSt.out.2.1
                  have h2 := HR1.out.2.2
                  rw [h0] at h2
                  exact ⟨_, h.1, h.2, by simpa [List.append_assoc] using h2⟩)
                go_wp2
                go_end0
                exact ⟨rfl, HEnd.out⟩
            · have x5 : decide (mid < en) = false := decide_eq_false e5
              have HEnd : Hid (∃ R, R.Perm (A ++ B) ∧ Sorted' R ∧ SR W g (P ++ (R ++ Q)) w8) := Lib.hid (by
                have h0 : A2 = [] := List.eq_nil_of_length_eq_zero (by have := HLn.out.2.1; omega)
                have h := HHalf.out R1 B2 HR1.out.1 (by rw [h0, List.nil_append]) HR1.out.2.1 HSt.out.2.2.2
                have h2 := HR1.out.2.2
                rw [h0] at h2
                exact ⟨_, h.1, h.2, by simpa [List.append_assoc] using h2⟩)
              go_wp2
              go_end0
              exact ⟨rfl, HEnd.out⟩
          · have x4 : decide (i < mid) = false := decide_eq_false e4
            have HR1 : Hid (A1.Perm (A1 ++ B1) ∧ Sorted' A1 ∧ SR W g (P ++ (A1 ++ (A2 ++ (B2 ++ Q)))) wr) := Lib.hid (by
              have : B1 = [] := List.eq_nil_of_length_eq_zero (by have := HLn.out.2.2.1; omega)
              have h := HRow2.out
              rw [this] at h ⊢
              exact ⟨by rw [List.append_nil], HSt.out.1, h⟩)
            clear HRow2
            obtain ⟨R1, hR1⟩ : ∃ R1, R1 = A1 := ⟨_, rfl⟩
            have HR1 : Hid (R1.Perm (A1 ++ B1) ∧ Sorted' R1 ∧ SR W g (P ++ (R1 ++ (A2 ++ (B2 ++ Q)))) wr) := Lib.hid (by rw [hR1]; exact HR1.out)
            clear hR1
            have HL1 : Hid (R1.length = mid - a) := Lib.hid (by rw [HR1.out.1.length_eq, List.length_append, HLn.out.1, HLn.out.2.2.1]; omega)
            by_cases e5 : mid < en
            · have x5 : decide (mid < en) = true := decide_eq_true e5
              by_cases e6 : en < b
              · have x6 : decide (en < b) = true := decide_eq_true e6
                have HC := Lib.hid (IH.out (P ++ R1) A2 B2 Q mid en b wr (by have h1 := HLn.out.2.1; have h2 := HLn.out.2.2.2; have h3 := HA.out; omega) (by have := HLn.out.2.1; omega) (by have := HLn.out.2.2.2; omega) (by have h0 := HTot.out; have h1 := HL1.out; have h2 := HLn.out; simp only [List.length_append]; omega) (by have h1 := HL1.out; have h2 := HA.out.1; rw [List.length_append]; omega) (by have := HLn.out.2.1; omega) (by have h2 := HLn.out.2.2.2; omega) HSt.out.2.1 HSt.out.2.2.2 HSm2.out.2 (by rw [List.append_assoc]; exact HR1.out.2.2))
                go_wp2_with fail
                refine HC.out.mono ?_
                rintro e w9 ⟨rfl, R2, hp2, hs2, hS2⟩
                have HEnd : Hid (∃ R, R.Perm (A ++ B) ∧ Sorted' R ∧ SR W g (P ++ (R ++ Q)) w9) := Lib.hid ⟨R1 ++ R2, (HHalf.out R1 R2 HR1.out.1 hp2 HR1.out.2.1 hs2).1, (HHalf.out R1 R2 HR1.out.1 hp2 HR1.out.2.1 hs2).2, by simpa [List.append_assoc] using hS2⟩
                clear hp2 hs2 hS2
                go_wp2
                go_end0
                exact ⟨rfl, HEnd.out⟩
              · have x6 : decide (en < b) = false := decide_eq_false e6
                have HEnd : Hid (∃ R, R.Perm (A ++ B) ∧ Sorted' R ∧ SR W g (P ++ (R ++ Q)) wr) := Lib.hid (by
                  have h0 : B2 = [] := List.eq_nil_of_length_eq_zero (by have := HLn.out.2.2.2; omega)
                  have h := HHalf.out R1 A2 HR1.out.1 (by rw [h0, List.append_nil]) HR1.out.2.1 HSt.out.2.1
                  have h2 := HR1.out.2.2
                  rw [h0] at h2
                  exact ⟨_, h.1, h.2, by simpa [List.append_assoc] using h2⟩)
                go_wp2
                go_end0
                exact ⟨rfl, HEnd.out⟩
            · have x5 : decide (mid < en) = false := decide_eq_false e5
              have HEnd : Hid (∃ R, R.Perm (A ++ B) ∧ Sorted' R ∧ SR W g (P ++ (R ++ Q)) wr) := Lib.hid (by
                have h0 : A2 = [] := List.eq_nil_of_length_eq_zero (by have := HLn.out.2.1; omega)
                have h := HHalf.out R1 B2 HR1.out.1 (by rw [h0, List.nil_append]) HR1.out.2.1 HSt.out.2.2.2
                have h2 := HR1.out.2.2
                rw [h0] at h2
                exact ⟨_, h.1, h.2, by simpa [List.append_assoc] using h2⟩)
              go_wp2
              go_end0
              exact ⟨rfl, HEnd.out⟩
        · have x3 : decide (a < i) = false := decide_eq_false e3
          have HR1 : Hid (B1.Perm (A1 ++ B1) ∧ Sorted' B1 ∧ SR W g (P ++ (B1 ++ (A2 ++ (B2 ++ Q)))) wr) := Lib.hid (by
            have : A1 = [] := List.eq_nil_of_length_eq_zero (by have := HLn.out.1; omega)
            have h := HRow2.out
            rw [this] at h ⊢
            exact ⟨List.Perm.refl _, HSt.out.2.2.1, h⟩)
          clear HRow2
          obtain ⟨R1, hR1⟩ : ∃ R1, R1 = B1 := ⟨_, rfl⟩
          have HR1 : Hid (R1.Perm (A1 ++ B1) ∧ Sorted' R1 ∧ SR W g (P ++ (R1 ++ (A2 ++ (B2 ++ Q)))) wr) := Lib.hid (by rw [hR1]; exact HR1.out)
          clear hR1
          have HL1 : Hid (R1.length = mid - a) := Lib.hid (by rw [HR1.out.1.length_eq, List.length_append, HLn.out.1, HLn.out.2.2.1]; omega)
          by_cases e5 : mid < en
          · have x5 : decide (mid < en) = true := decide_eq_true e5
            by_cases e6 : en < b
            · have x6 : decide (en < b) = true := decide_eq_true e6
              have HC := Lib.hid (IH.out (P ++ R1) A2 B2 Q mid en b wr (by have h1 := HLn.out.2.1; have h2 := HLn.out.2.2.2; have h3 := HA.out; omega) (by have := HLn.out.2.1; omega) (by have := HLn.out.2.2.2; omega) (by have h0 := HTot.out; have h1 := HL1.out; have h2 := HLn.out; simp only [List.length_append]; omega) (by have h1 := HL1.out; have h2 := HA.out.1; rw [List.length_append]; omega) (by have := HLn.out.2.1; omega) (by have h2 := HLn.out.2.2.2; omega) HSt.out.2.1 HSt.out.2.2.2 HSm2.out.2 (by rw [List.append_assoc]; exact HR1.out.2.2))
              go_wp2_with fail
              refine HC.out.mono ?_
              rintro e w9 ⟨rfl, R2, hp2, hs2, hS2⟩
              have HEnd : Hid (∃ R, R.Perm (A ++ B) ∧ Sorted' R ∧ SR W g (P ++ (R ++ Q)) w9) := Lib.hid ⟨R1 ++ R2, (HHalf.out R1 R2 HR1.out.1 hp2 HR1.out.2.1 hs2).1, (HHalf.out R1 R2 HR1.out.1 hp2 HR1.out.2.1 hs2).2, by simpa [List.append_assoc] using hS2⟩
              clear hp2 hs2 hS2
              go_wp2
              go_end0
              exact ⟨rfl, HEnd.out⟩
            · have x6 : decide (en < b) = false := decide_eq_false e6
              have HEnd : Hid (∃ R, R.Perm (A ++ B) ∧ Sorted' R ∧ SR W g (P ++ (R ++ Q)) wr) := Lib.hid (by
                have h0 : B2 = [] := List.eq_nil_of_length_eq_zero (by have := HLn.out.2.2.2; omega)
                have h := HHalf.out R1 A2 HR1.out.1 (by rw [h0, List.append_nil]) HR1.out.2.1 HSt.out.2.1
                have h2 := HR1.out.2.2
                rw [h0] at h2
                exact ⟨_, h.1, h.2, by simpa [List.append_assoc] using h2⟩)
              go_wp2
              go_end0
              exact ⟨rfl, HEnd.out⟩
          · have x5 : decide (mid < en) = false := decide_eq_false e5
            have HEnd : Hid (∃ R, R.Perm (A ++ B) ∧ Sorted' R ∧ SR W g (P ++ (R ++ Q)) wr) := Lib.hid (by
              have h0 : A2 = [] := List.eq_nil_of_length_eq_zero (by have := HLn.out.2.1; omega)
              have h := HHalf.out R1 B2 HR1.out.1 (by rw [h0, List.nil_append]) HR1.out.2.1 HSt.out.2.2.2
              have h2 := HR1.out.2.2
              rw [h0] at h2
              exact ⟨_, h.1, h.2, by simpa [List.append_assoc] using h2⟩)
            go_wp2
            go_end0
            exact ⟨rfl, HEnd.out⟩
    · have x1 : decide (i < m) = false := decide_eq_false e1
      have HRow2 : Hid (SR W g (P ++ (A1 ++ (B1 ++ (A2 ++ (B2 ++ Q))))) wr) := Lib.hid (by
        have : A2 = [] := List.eq_nil_of_length_eq_zero (by have := HLn.out.2.1; omega)
        have h := HRow.out.1
        rw [this] at h ⊢
        exact h)
      clear HRow
      by_cases e3 : a < i
      · have x3 : decide (a < i) = true := decide_eq_true e3
        by_cases e4 : i < mid
        · have x4 : decide (i < mid) = true := decide_eq_true e4
          have HC := Lib.hid (IH.out P A1 B1 (A2 ++ (B2 ++ Q)) a i mid wr (by have h1 := HLn.out.1; have h2 := HLn.out.2.2.1; have h3 := HA.out; omega) (by have := HLn.out.1; omega) (by have := HLn.out.2.2.1; omega) (by have := HTot.out; simp only [List.length_append]; omega) HA.out.1 (by have := HLn.out.1; omega) (by have h2 := HLn.out.2.2.1; omega) HSt.out.1 HSt.out.2.2.1 HSm2.out.1 HRow2.out)
          go_wp2_with fail
          refine HC.out.mono ?_
          rintro e w8 ⟨rfl, R1, hp1, hs1, hS2⟩
          have HR1 := Lib.hid (show R1.Perm (A1 ++ B1) ∧ Sorted' R1 ∧ SR W g (P ++ (R1 ++ (A2 ++ (B2 ++ Q)))) w8 from ⟨hp1, hs1, hS2⟩)
          clear hp1 hs1 hS2 HRow2 HC
          have HL1 : Hid (R1.length = mid - a) := Lib.hid (by rw [HR1.out.1.length_eq, List.length_append, HLn.out.1, HLn.out.2.2.1]; omega)
          by_cases e5 : mid < en
          · have x5 : decide (mid < en) = true := decide_eq_true e5
            by_cases e6 : en < b
            · have x6 : decide (en < b) = true := decide_eq_true e6
              have HC := Lib.hid (IH.out (P ++ R1) A2 B2 Q mid en b w8 (by have h1 := HLn.out.2.1; have h2 := HLn.out.2.2.2; have h3 := HA.out; omega) (by have := HLn.out.2.1; omega) (by have := HLn.out.2.2.2; omega) (by have h0 := HTot.out; have h1 := HL1.out; have h2 := HLn.out; simp only [List.length_append]; omega) (by have h1 := HL1.out; have h2 := HA.out.1; rw [List.length_append]; omega) (by have := HLn.out.2.1; omega) (by have h2 := HLn.out.2.2.2; omega) HSt.out.2.1 HSt.out.2.2.2 HSm2.out.2 (by rw [List.append_assoc]; exact HR1.out.2.2))
              go_wp2_with fail
              refine HC.out.mono ?_
              rintro e w9 ⟨rfl, R2, hp2, hs2, hS2⟩
              have HEnd : Hid (∃ R, R.Perm (A ++ B) ∧ Sorted' R ∧ SR W g (P ++ (R ++ Q)) w9) := Lib.hid ⟨R1 ++ R2, (HHalf.out R1 R2 HR1.out.1 hp2 HR1.out.2.1 hs2).1, (HHalf.out R1 R2 HR1.out.1 hp2 HR1.out.2.1 hs2).2, by simpa [List.append_assoc] using hS2⟩
              clear hp2 hs2 hS2
              go_wp2
              go_end0
              exact ⟨rfl, HEnd.out⟩
            · have x6 : decide (en < b) = false := decide_eq_false e6
              have HEnd : Hid (∃ R, R.Perm (A ++ B) ∧ Sorted' R ∧ SR W g (P ++ (R ++ Q)) w8) := Lib.hid (by
                have h0 : B2 = [] := List.eq_nil_of_length_eq_zero (by have := HLn.out.2.2.2; omega)
                have h := HHalf.out R1 A2 HR1.out.1 (by rw [h0, List.append_nil]) HR1.out.2.1 HSt.out.2.1
                have h2 := HR1.out.2.2
                rw [h0] at h2
                exact ⟨_, h.1, h.2, by simpa [List.append_assoc] using h2⟩)
              go_wp2
              go_end0
              exact ⟨rfl, HEnd.out⟩
          · have x5 : decide (mid < en) = false := decide_eq_false e5
            have HEnd : Hid (∃ R, R.Perm (A ++ B) ∧ Sorted' R ∧ SR W g (P ++ (R ++ Q)) w8) := Lib.hid (by
              have h0 : A2 = [] := List.eq_nil_of_length_eq_zero (by have := HLn.out.2.1; omega)
              have h := HHalf.out R1 B2 HR1.out.1 (by rw [h0, List.nil_append]) HR1.out.2.1 HSt.out.2.2.2
              have h2 := HR1.out.2.2
              rw [h0] at h2
              exact ⟨_, h.1, h.2, by simpa [List.append_assoc] using h2⟩)
            go_wp2
            go_end0
            exact ⟨rfl, HEnd.out⟩
        · have x4 : decide (i < mid) = false := decide_eq_false e4
          have HR1 : Hid (A1.Perm (A1 ++ B1) ∧ Sorted' A1 ∧ SR W g (P ++ (A1 ++ (A2 ++ (B2 ++ Q)))) wr) := Lib.hid (by
            have : B1 = [] := List.eq_nil_of_length_eq_zero (by have := HLn.out.2.2.1; omega)
            have h := HRow2.out
            rw [this] at h ⊢
            exact ⟨by rw [List.append_nil], HSt.out.1, h⟩)
          clear HRow2
          obtain ⟨R1, hR1⟩ : ∃ R1, R1 = A1 := ⟨_, rfl⟩
          have HR1 : Hid (R1.Perm (A1 ++ B1) ∧ Sorted' R1 ∧ SR W g (P ++ (R1 ++ (A2 ++ (B2 ++ Q)))) wr) := Lib.hid (by rw [hR1]; exact HR1.out)
          clear hR1
          have HL1 : Hid (R1.length = mid - a) := Lib.hid (by rw [HR1.out.1.length_eq, List.length_append, HLn.out.1, HLn.out.2.2.1]; omega)
          by_cases e5 : mid < en
          · have x5 : decide (mid < en) = true := decide_eq_true e5
            by_cases e6 : en < b
            · have x6 : decide (en < b) = true := decide_eq_true e6
              have HC := Lib.hid (IH.out (P ++ R1) A2 B2 Q mid en b wr (by have h1 := HLn.out.2.1; have h2 := HLn.out.2.2.2; have h3 := HA.out; omega) (by have := HLn.out.2.1; omega) (by have := HLn.out.2.2.2; omega) (by have h0 := HTot.out; have h1 := HL1.out; have h2 := HLn.out; simp only [List.length_append]; omega) (by have h1 := HL1.out; have h2 := HA.out.1; rw [List.length_append]; omega) (by have := HLn.out.2.1; omega) (by have h2 := HLn.out.2.2.2; omega) HSt.out.2.1 HSt.out.2.2.2 HSm2.out.2 (by rw [List.append_assoc]; exact HR1.out.2.2))
              go_wp2_with fail
              refine HC.out.mono ?_
              rintro e w9 ⟨rfl, R2, hp2, hs2, hS2⟩
              have HEnd : Hid (∃ R, R.Perm (A ++ B) ∧ Sorted' R ∧ SR W g (P ++ (R ++ Q)) w9) := Lib.hid ⟨R1 ++ R2, (HHalf.out R1 R2 HR1.out.1 hp2 HR1.out.2.1 hs2).1, (HHalf.out R1 R2 HR1.out.1 hp2 HR1.out.2.1 hs2).2, by simpa [List.append_assoc] using hS2⟩
              clear hp2 hs2 hS2
              go_wp2
              go_end0
              exact ⟨rfl, HEnd.out⟩
            · have x6 : decide (en < b) = false := decide_eq_false e6
              have HEnd : Hid (∃ R, R.Perm (A ++ B) ∧ Sorted' R ∧ SR W g (P ++ (R ++ Q)) wr) := Lib.hid (by
                have h0 : B2 = [] := List.eq_nil_of_length_eq_zero (by have := HLn.out.2.2.2; omega)
                have h := HHalf.out R1 A2 HR1.out.1 (by rw [h0, List.append_nil]) HR1.out.2.1 HSt.out.2.1
                have h2 := HR1.out.2.2
                rw [h0] at h2
                exact ⟨_, h.1, h.2, by simpa [List.append_assoc] using h2⟩)
              go_wp2
              go_end0
              exact ⟨rfl, HEnd.out⟩
          · have x5 : decide (mid < en) = false := decide_eq_false e5
            have HEnd : Hid (∃ R, R.Perm (A ++ B) ∧ Sorted' R ∧ SR W g (P ++ (R ++ Q)) wr) := Lib.hid (by
              have h0 : A2 = [] := List.eq_nil_of_length_eq_zero (by have := HLn.out.2.1; omega)
              have h := HHalf.out R1 B2 HR1.out.1 (by rw [h0, List.nil_append]) HR1.out.2.1 HSt.out.2.2.2
              have h2 := HR1.out.2.2
              rw [h0] at h2
              exact ⟨_, h.1, h.2, by simpa [List.append_assoc] using h2⟩)
            go_wp2
            go_end0
            exact ⟨rfl, HEnd.out⟩
      · have x3 : decide (a < i) = false := decide_eq_false e3
        have HR1 : Hid (B1.Perm (A1 ++ B1) ∧ Sorted' B1 ∧ SR W g (P ++ (B1 ++ (A2 ++ (B2 ++ Q)))) wr) := Lib.hid (by
          have : A1 = [] := List.eq_nil_of_length_eq_zero (by have := HLn.out.1; omega)
          have h := HRow2.out
          rw [this] at h ⊢
          exact ⟨List.Perm.refl _, HSt.out.2.2.1, h⟩)
        clear HRow2
        obtain ⟨R1, hR1⟩ : ∃ R1, R1 = B1 := ⟨_, rfl⟩
        have HR1 : Hid (R1.Perm (A1 ++ B1) ∧ Sorted' R1 ∧ SR W g (P ++ (R1 ++ (A2 ++ (B2 ++ Q)))) wr) := Lib.hid (by rw [hR1]; exact HR1.out)
        clear hR1
        have HL1 : Hid (R1.length = mid - a) := Lib.hid (by rw [HR1.out.1.length_eq, List.length_append, HLn.out.1, HLn.out.2.2.1]; omega)
        by_cases e5 : mid < en
        · have x5 : decide (mid < en) = true := decide_eq_true e5
          by_cases e6 : en < b
          · have x6 : decide (en < b) = true := decide_eq_true e6
            have HC := Lib.hid (IH.out (P ++ R1) A2 B2 Q mid en b wr (by have h1 := HLn.out.2.1; have h2 := HLn.out.2.2.2; have h3 := HA.out; omega) (by have := HLn.out.2.1; omega) (by have := HLn.out.2.2.2; omega) (by have h0 := HTot.out; have h1 := HL1.out; have h2 := HLn.out; simp only [List.length_append]; omega) (by have h1 := HL1.out; have h2 := HA.out.1; rw [List.length_append]; omega) (by have := HLn.out.2.1; omega) (by have h2 := HLn.out.2.2.2; omega) HSt.out.2.1 HSt.out.2.2.2 HSm2.out.2 (by rw [List.append_assoc]; exact HR1.out.2.2))
            go_wp2_with fail
            refine HC.out.mono ?_
            rintro e w9 ⟨rfl, R2, hp2, hs2, hS2⟩
            have HEnd : Hid (∃ R, R.Perm (A ++ B) ∧ Sorted' R ∧ SR W g (P ++ (R ++ Q)) w9) := Lib.hid ⟨R1 ++ R2, (HHalf.out R1 R2 HR1.out.1 hp2 HR1.out.2.1 hs2).1, (HHalf.out R1 R2 HR1.out.1 hp2 HR1.out.2.1 hs2).2, by simpa [List.append_assoc] using hS2⟩
            clear hp2 hs2 hS2
            go_wp2
            go_end0
            exact ⟨rfl, HEnd.out⟩
          · have x6 : decide (en < b) = false := decide_eq_false e6
            have HEnd : Hid (∃ R, R.Perm (A ++ B) ∧ Sorted' R ∧ SR W g (P ++ (R ++ Q)) wr) := Lib.hid (by
              have h0 : B2 = [] := List.eq_nil_of_length_eq_zero (by have := HLn.out.2.2.2; omega)
              have h := HHalf.out R1 A2 HR1.out.1 (by rw [h0, List.append_nil]) HR1.out.2.1 HSt.out.2.1
              have h2 := HR1.out.2.2
              rw [h0] at h2
              exact ⟨_, h.1, h.2, by simpa [List.append_assoc] using h2⟩)
            go_wp2
            go_end0
            exact ⟨rfl, HEnd.out⟩
        · have x5 : decide (mid < en) = false := decide_eq_false e5
          have HEnd : Hid (∃ R, R.Perm (A ++ B) ∧ Sorted' R ∧ SR W g (P ++ (R ++ Q)) wr) := Lib.hid (by
            have h0 : A2 = [] := List.eq_nil_of_length_eq_zero (by have := HLn.out.2.1; omega)
            have h := HHalf.out R1 B2 HR1.out.1 (by rw [h0, List.nil_append]) HR1.out.2.1 HSt.out.2.2.2
            have h2 := HR1.out.2.2
            rw [h0] at h2
            exact ⟨_, h.1, h.2, by simpa [List.append_assoc] using h2⟩)
          go_wp2
          go_end0
          exact ⟨rfl, HEnd.out⟩
end Go.Proofs.YtmcoloapiiakbaaGreatDoor.SortW
/-
  slices.symMergeCmpFunc, walked: the parts, the right one longer.
-/
set_option linter.unusedVariables false
set_option linter.unusedSimpArgs false
namespace Go.Proofs.YtmcoloapiiakbaaGreatDoor.SortW
open Go.RowKit Go.Lib Go.Proofs.YtmcoloapiiakbaaGreatDoor.B Go.Proofs.YtmcoloapiiakbaaGreatDoor.Rd Go.Proofs.YtmcoloapiiakbaaGreatDoor.Utf Go.Proofs.YtmcoloapiiakbaaGreatDoor.TermPure Go.Proofs.YtmcoloapiiakbaaGreatDoor.LinesPure Go.Proofs.YtmcoloapiiakbaaGreatDoor.Tx Go.Proofs.YtmcoloapiiakbaaGreatDoor.Env Go.Proofs.YtmcoloapiiakbaaGreatDoor.Tri Go.Proofs.YtmcoloapiiakbaaGreatDoor.SortP Go.Proofs.YtmcoloapiiakbaaGreatDoor.Print Go.Proofs.YtmcoloapiiakbaaGreatDoor.Cmp Go.Proofs.YtmcoloapiiakbaaGreatDoor.Long
set_option maxHeartbeats 25600000 in
set_option maxRecDepth 100000 in
theorem sym_gen2 (L cap : Nat) (hLs : L ≤ 140737488355328) (g : Nat) (W : World) (N : Nat) (hIH : SymC L cap g W N) (P A B Q : List Triple) (a m b : Nat) (w : World) (hN : A.length + B.length ≤ N + 1) (hA0 : 0 < A.length) (hB0 : 0 < B.length) (hL : (P ++ (A ++ (B ++ Q))).length = L) (ha : a = P.length) (hm : m = a + A.length) (hb : b = m + B.length) (hA : Sorted' A) (hB : Sorted' B) (hsm : ∀ t ∈ A ++ B, SmallT t) (hS : SR W g (P ++ (A ++ (B ++ Q))) w) (c1 : ¬ A.length = 1) (c2 : ¬ B.length = 1) (hcase : m ≤ (a + b) / 2) :
    Calls Tryz.prog 100 #[.slice (some ⟨g, 0, none⟩) L cap, .int .i64 a, .int .i64 m, .int .i64 b, cmpV] w fun e w' => e = .returned (.tuple #[]) ∧ ∃ R, R.Perm (A ++ B) ∧ Sorted' R ∧ SR W g (P ++ (R ++ Q)) w' := by
  have hlen := hL
  simp only [List.length_append] at hlen
  have IH := Lib.hid hIH
  obtain ⟨d0, hd0⟩ : ∃ d0, d0 = m - a := ⟨_, rfl⟩
  have w0 : IntKind.i64.wrap ((m : Int) - (a : Int)) = (d0 : Int) := by rw [IntKind.wrap_i64]; omega
  have w00 : ((d0 : Int) == 1) = false := by rw [beq_eq_false_iff_ne]; omega
  obtain ⟨d1, hd1⟩ : ∃ d1, d1 = b - m := ⟨_, rfl⟩
  have w1 : IntKind.i64.wrap ((b : Int) - (m : Int)) = (d1 : Int) := by rw [IntKind.wrap_i64]; omega
  have w11 : ((d1 : Int) == 1) = false := by rw [beq_eq_false_iff_ne]; omega
  obtain ⟨mid, hmid⟩ : ∃ mid, mid = (a + b) / 2 := ⟨_, rfl⟩
  have hq : ((a : Int) + (b : Int)) / 2 = (mid : Int) := by omega
  obtain ⟨n, hn⟩ : ∃ n, n = mid + m := ⟨_, rfl⟩
  have wn : IntKind.i64.wrap ((mid : Int) + (m : Int)) = (n : Int) := by rw [IntKind.wrap_i64]; omega
  obtain ⟨p, hp⟩ : ∃ p, p + 1 = n := ⟨n - 1, by omega⟩
  have wp : IntKind.i64.wrap ((n : Int) - 1) = (p : Int) := by rw [IntKind.wrap_i64]; omega
  rw [← hmid] at hcase
  have HSR : Hid ((mid < m ∧ a + b = n ∧ m = mid) ∨ (m ≤ mid ∧ a = a ∧ m = m)) := Lib.hid (.inr ⟨hcase, rfl, rfl⟩)
  have hdm : decide (mid < m) = false := decide_eq_false (by omega)
  have hbds : a ≤ a ∧ a ≤ m ∧ m ≤ m ∧ a ≤ n := by omega
  have hin : ∀ c, a ≤ c → c < m → m ≤ p - c ∧ p - c < b ∧ a ≤ c ∧ c < m ∧ c ≤ p := fun c h1 h2 => by omega
  obtain ⟨hb1, hb2, hb3, hb4⟩ := hbds
  have hbL : b ≤ L := by omega
  have ham : a < m := by omega
  have hmb : m < b := by omega
  have hamid : a < mid := by omega
  have hmidb : mid < b := by omega
  have HIn := Lib.hid hin
  have HA := Lib.hid (show a = P.length ∧ m = P.length + A.length ∧ b = m + B.length ∧ mid = (a + b) / 2 ∧ n = mid + m ∧ p + 1 = n ∧ A.length + B.length ≤ N + 1 from ⟨ha, by omega, hb, hmid, hn, hp, hN⟩)
  have HAs := Lib.hid hA
  have HBs := Lib.hid hB
  have HSm := Lib.hid hsm
  have HS0 := Lib.hid hS
  have HL := Lib.hid hL
  clear hin hS hL hlen ha hb hA hB hsm hm hd0 hd1 hmid hn hp c1 c2 hA0 hB0 hN hIH
  unfold cmpV at *
  go_enter Tryz.func100, Tryz.ntmps100
  go_wp2
  go_loopw [20, 21] (fun vi vj wr => ∃ i j : Nat, vi = .int .i64 i ∧ vj = .int .i64 j ∧ a ≤ i ∧ i ≤ j ∧ j ≤ m ∧ Hid ((i = a ∨ ∃ u v, A[i - 1 - a]? = some u ∧ B[n - i - m]? = some v ∧ ¬ ltT v u) ∧ (j = m ∨ ∃ u v, A[j - a]? = some u ∧ B[p - j - m]? = some v ∧ ltT v u) ∧ SR W g (P ++ (A ++ (B ++ Q))) wr)) (fun vi vj _ => (intOf vj).toNat - (intOf vi).toNat)
  case atStart => exact ⟨a, m, rfl, rfl, by omega, by omega, by omega, Lib.hid ⟨.inl rfl, .inl rfl, HS0.out⟩⟩
  case round =>
  obtain ⟨i, j, rfl, rfl, hmi, hij, hjb, HR⟩ := hrel
  clear HS0 w0 w00 w1 w11 hq wn
  by_cases hlt : i < j
  · have hd : decide (i < j) = true := decide_eq_true hlt
    obtain ⟨h, hh⟩ : ∃ h, h = (i + j) / 2 := ⟨_, rfl⟩
    have hq : ((i : Int) + (j : Int)) / 2 = (h : Int) := by omega
    have hih : i ≤ h := by omega
    have hhj : h < j := by omega
    clear hh
    obtain ⟨i1, i2, i3, i4, i5⟩ := HIn.out h (by omega) (by omega)
    obtain ⟨pc, hpc⟩ : ∃ pc, pc = p - h := ⟨_, rfl⟩
    have wpc : IntKind.i64.wrap ((p : Int) - (h : Int)) = (pc : Int) := by rw [IntKind.wrap_i64]; omega
    have hhb : (h : Int) < (L : Int) := by omega
    have hab : (pc : Int) < (L : Int) := by omega
    have hAl : h - a < A.length := by have h1 := HA.out.1; have h2 := HA.out.2.1; omega
    have hBl : pc - m < B.length := by have h1 := HA.out.2.2.1; omega
    obtain ⟨x, hu⟩ : ∃ x, A[h - a]? = some x := ⟨_, List.getElem?_eq_getElem hAl⟩
    obtain ⟨y, hv⟩ : ∃ y, B[pc - m]? = some y := ⟨_, List.getElem?_eq_getElem hBl⟩
    have hrow : (P ++ (A ++ (B ++ Q)))[h]? = some x := by
      rw [← hu, ← at_A (P := P) (A := A) (B := B) (Q := Q) hAl]
      congr 1
      have := HA.out.1
      omega
    have hrow0 : (P ++ (A ++ (B ++ Q)))[pc]? = some y := by
      rw [← hv, ← at_B (P := P) (A := A) (B := B) (Q := Q) hBl]
      congr 1
      have := HA.out.2.1
      omega
    have hcu := HR.out.2.2.at hrow
    have hcv := HR.out.2.2.at hrow0
    have hgl := hcu.lt
    have HBk : Hid (∀ w2, Below wr.heap.size wr w2 → SR W g (P ++ (A ++ (B ++ Q))) w2) := Lib.hid (fun w2 hb => HR.out.2.2.below hgl hb)
    have HC := Lib.hid (fun w => cmp_calls y x (HSm.out y (List.mem_append_right _ (List.mem_of_getElem? hv))) (HSm.out x (List.mem_append_left _ (List.mem_of_getElem? hu))) w)
    have HLt : Hid (cmpT y x < 0 ↔ ltT y x) := Lib.hid Iff.rfl
    have HU : Hid (A[h - a]? = some x ∧ B[p - h - m]? = some y ∧ B[n - (h + 1) - m]? = some y) := Lib.hid ⟨hu, by rw [← hpc]; exact hv, by rw [← hv]; congr 1; have := HA.out.2.2.2.2.2.1; omega⟩
    have HI := Lib.hid HR.out.1
    have HJ := Lib.hid HR.out.2.1
    obtain ⟨r, hr⟩ : ∃ r, r = cmpT y x := ⟨_, rfl⟩
    rw [← hr] at HC HLt
    clear hr hu hv hrow hrow0 hAl hBl HR hpc
    by_cases hvn : r < 0
    · have hvd : decide (r < 0) = true := decide_eq_true hvn
      have HYL : Hid (ltT y x) := Lib.hid (HLt.out.1 hvn)
      have HJ2 : Hid (h = m ∨ ∃ u v, A[h - a]? = some u ∧ B[p - h - m]? = some v ∧ ltT v u) := Lib.hid (.inr ⟨x, y, HU.out.1, HU.out.2.1, HYL.out⟩)
      clear hvn HLt HU HYL HJ
      obtain ⟨⟨sk', sx', se'⟩, ⟨pk', px', pe'⟩, ⟨ok', ox', oe'⟩⟩ := y
      obtain ⟨⟨sk, sx, se⟩, ⟨pk, px, pe⟩, ⟨ok, ox, oe⟩⟩ := x
      have y0 := fun p => (hcv.bel p).c0
      have y1 := fun p => (hcv.bel p).c1
      have y2 := fun p => (hcv.bel p).c2
      have y3 := fun p => (hcv.bel p).c3
      have y4 := fun p => (hcv.bel p).c4
      have y5 := fun p => (hcv.bel p).c5
      have y6 := fun p => (hcv.bel p).c6
      have y7 := fun p => (hcv.bel p).c7
      have y8 := fun p => (hcv.bel p).c8
      have x0 := fun p => (hcu.bel p).c0
      have x1 := fun p => (hcu.bel p).c1
      have x2 := fun p => (hcu.bel p).c2
      have x3 := fun p => (hcu.bel p).c3
      have x4 := fun p => (hcu.bel p).c4
      have x5 := fun p => (hcu.bel p).c5
      have x6 := fun p => (hcu.bel p).c6
      have x7 := fun p => (hcu.bel p).c7
      have x8 := fun p => (hcu.bel p).c8
      dsimp only at y0 y1 y2 y3 y4 y5 y6 y7 y8 x0 x1 x2 x3 x4 x5 x6 x7 x8
      unfold Ref5.tripleV at HC
      dsimp only at HC
      go_upto_region 35 with fail
      refine QT.region_all (by kernel_rfl) (by kernel_rfl) ?_
      iterate 11 (go_big_quiet_step (fail))
      go_big_quiet_step (exact QT.Bel.call _ (HC.out _))
      iterate 2 (go_big_quiet_step (fail))
      refine wpQuiet_nil ?_
      intro w2 hw'
      obtain ⟨⟨_, hb⟩, rfl⟩ := hw'
      have HS2 := Lib.hid (HBk.out w2 hb)
      clear hb y0 y1 y2 y3 y4 y5 y6 y7 y8 x0 x1 x2 x3 x4 x5 x6 x7 x8 hcu hcv
      go_wp2
      go_roundw
      case rel => exact ⟨i, h, rfl, by go_num, hmi, by omega, by omega, Lib.hid ⟨HI.out, HJ2.out, HS2.out⟩⟩
      case measure => simp [intOf]; omega
    · have hvd : decide (r < 0) = false := decide_eq_false hvn
      have HYL : Hid (¬ ltT y x) := Lib.hid (fun hl => hvn (HLt.out.2 hl))
      have HI2 : Hid (h + 1 = a ∨ ∃ u v, A[h + 1 - 1 - a]? = some u ∧ B[n - (h + 1) - m]? = some v ∧ ¬ ltT v u) := Lib.hid (.inr ⟨x, y, by rw [show h + 1 - 1 - a = h - a by omega]; exact HU.out.1, HU.out.2.2, HYL.out⟩)
      clear hvn HLt HU HYL HI
      obtain ⟨⟨sk', sx', se'⟩, ⟨pk', px', pe'⟩, ⟨ok', ox', oe'⟩⟩ := y
      obtain ⟨⟨sk, sx, se⟩, ⟨pk, px, pe⟩, ⟨ok, ox, oe⟩⟩ := x
      have y0 := fun p => (hcv.bel p).c0
      have y1 := fun p => (hcv.bel p).c1
      have y2 := fun p => (hcv.bel p).c2
      have y3 := fun p => (hcv.bel p).c3
      have y4 := fun p => (hcv.bel p).c4
      have y5 := fun p => (hcv.bel p).c5
      have y6 := fun p => (hcv.bel p).c6
      have y7 := fun p => (hcv.bel p).c7
      have y8 := fun p => (hcv.bel p).c8
      have x0 := fun p => (hcu.bel p).c0
      have x1 := fun p => (hcu.bel p).c1
      have x2 := fun p => (hcu.bel p).c2
      have x3 := fun p => (hcu.bel p).c3
      have x4 := fun p => (hcu.bel p).c4
      have x5 := fun p => (hcu.bel p).c5
      have x6 := fun p => (hcu.bel p).c6
      have x7 := fun p => (hcu.bel p).c7
      have x8 := fun p => (hcu.bel p).c8
      dsimp only at y0 y1 y2 y3 y4 y5 y6 y7 y8 x0 x1 x2 x3 x4 x5 x6 x7 x8
      unfold Ref5.tripleV at HC
      dsimp only at HC
      go_upto_region 35 with fail
      refine QT.region_all (by kernel_rfl) (by kernel_rfl) ?_
      iterate 11 (go_big_quiet_step (fail))
      go_big_quiet_step (exact QT.Bel.call _ (HC.out _))
      iterate 2 (go_big_quiet_step (fail))
      refine wpQuiet_nil ?_
      intro w2 hw'
      obtain ⟨⟨_, hb⟩, rfl⟩ := hw'
      have HS2 := Lib.hid (HBk.out w2 hb)
      clear hb y0 y1 y2 y3 y4 y5 y6 y7 y8 x0 x1 x2 x3 x4 x5 x6 x7 x8 hcu hcv
      go_wp2
      go_roundw
      case rel => exact ⟨h + 1, j, by go_num, rfl, by omega, by omega, hjb, Lib.hid ⟨HI2.out, HJ.out, HS2.out⟩⟩
      case measure => simp [intOf]; omega
  · have hd : decide (i < j) = false := decide_eq_false hlt
    obtain rfl : i = j := by omega
    obtain ⟨en, hen⟩ : ∃ en, en = n - i := ⟨_, rfl⟩
    have wen : IntKind.i64.wrap ((n : Int) - (i : Int)) = (en : Int) := by rw [IntKind.wrap_i64]; have := HA.out.2.2.2.2.1; omega
    have hbnd : a ≤ i ∧ i ≤ m ∧ m ≤ en ∧ en ≤ b ∧ mid + m = i + en ∧ i ≤ mid ∧ mid ≤ en := by
      have h1 := HA.out.2.2.2.2.1
      have h2 := HA.out.2.2.2.1
      rcases HSR.out with ⟨h3, h4, h5⟩ | ⟨h3, h4, h5⟩ <;> omega
    obtain ⟨n1, n2, n3, n4, n5, n6, n7⟩ := hbnd
    obtain ⟨A1, hA1⟩ : ∃ A1, A1 = A.take (i - a) := ⟨_, rfl⟩
    obtain ⟨A2, hA2⟩ : ∃ A2, A2 = A.drop (i - a) := ⟨_, rfl⟩
    obtain ⟨B1, hB1⟩ : ∃ B1, B1 = B.take (en - m) := ⟨_, rfl⟩
    obtain ⟨B2, hB2⟩ : ∃ B2, B2 = B.drop (en - m) := ⟨_, rfl⟩
    have HLn : Hid (A1.length = i - a ∧ A2.length = m - i ∧ B1.length = en - m ∧ B2.length = b - en) := Lib.hid (by
      have h1 := HA.out.1; have h2 := HA.out.2.1; have h3 := HA.out.2.2.1
      rw [hA1, hA2, hB1, hB2, List.length_take, List.length_drop, List.length_take, List.length_drop]
      omega)
    have HAB : Hid (A = A1 ++ A2 ∧ B = B1 ++ B2) := Lib.hid ⟨by rw [hA1, hA2, List.take_append_drop], by rw [hB1, hB2, List.take_append_drop]⟩
    have HHalf : Hid (∀ R1 R2, R1.Perm (A1 ++ B1) → R2.Perm (A2 ++ B2) → Sorted' R1 → Sorted' R2 → (R1 ++ R2).Perm (A ++ B) ∧ Sorted' (R1 ++ R2)) := Lib.hid (by
      intro R1 R2 p1 p2 s1 s2
      have h1 := HA.out.1; have h2 := HA.out.2.1; have h3 := HA.out.2.2.1; have h4 := HA.out.2.2.2.2.1; have h5 := HA.out.2.2.2.2.2.1
      refine halves (s := i - a) (e := en - m) HAs.out HBs.out ?_ ?_ (by rw [← hA1, ← hB1]; exact p1) (by rw [← hA2, ← hB2]; exact p2) s1 s2
      · rcases HR.out.1 with h | ⟨u, v, hu, hv, hl⟩
        · rcases HSR.out with ⟨h6, h7, h8⟩ | ⟨h6, h7, h8⟩
          · right; left; omega
          · left; omega
        · right; right
          exact ⟨u, v, by rw [← hu]; congr 1; omega, by rw [← hv]; congr 1; omega, hl⟩
      · rcases HR.out.2.1 with h | ⟨u, v, hu, hv, hl⟩
        · rcases HSR.out with ⟨h6, h7, h8⟩ | ⟨h6, h7, h8⟩
          · right; left; omega
          · left; omega
        · right; right
          exact ⟨v, u, by rw [← hv]; congr 1; omega, hu, ltT_asymm hl⟩)
    have HSm2 : Hid ((∀ t ∈ A1 ++ B1, SmallT t) ∧ (∀ t ∈ A2 ++ B2, SmallT t)) := Lib.hid (by
      have h := HSm.out
      rw [HAB.out.1, HAB.out.2] at h
      refine ⟨fun t ht => h t ?_, fun t ht => h t ?_⟩
      · rcases List.mem_append.1 ht with ht | ht <;> simp [ht]
      · rcases List.mem_append.1 ht with ht | ht <;> simp [ht])
    have HSt : Hid (Sorted' A1 ∧ Sorted' A2 ∧ Sorted' B1 ∧ Sorted' B2) := Lib.hid (by
      have hA := HAs.out
      have hB := HBs.out
      rw [HAB.out.1] at hA
      rw [HAB.out.2] at hB
      exact ⟨(List.pairwise_append.1 hA).1, (List.pairwise_append.1 hA).2.1, (List.pairwise_append.1 hB).1, (List.pairwise_append.1 hB).2.1⟩)
    have HRow : Hid (SR W g (P ++ (A1 ++ (A2 ++ (B1 ++ (B2 ++ Q))))) wr ∧ P.length + (A1.length + (A2.length + (B1.length + (B2.length + Q.length)))) = L) := Lib.hid (by
      have h := HR.out.2.2
      have hl := HL.out
      rw [HAB.out.1, HAB.out.2] at h hl
      refine ⟨by simpa [List.append_assoc] using h, ?_⟩
      simp only [List.length_append] at hl
      omega)
    clear HR HAs HBs HSm HL hA1 hA2 hB1 hB2 hen
    have HTot := Lib.hid HRow.out.2
    by_cases e1 : i < m
    · have x1 : decide (i < m) = true := decide_eq_true e1
      by_cases e2 : m < en
      · have x2 : decide (m < en) = true := decide_eq_true e2
        have HC := Lib.hid (rotate_calls (.func (.func 15) #[] #[]) (P ++ A1) A2 B1 (B2 ++ Q) (by have := HLn.out.2.1; omega) (by have := HLn.out.2.2.1; omega) L (by have := HRow.out.2; simp only [List.length_append]; omega) hLs i m en cap (by have h1 := HLn.out.1; have h2 := HA.out.1; rw [List.length_append]; omega) (by have := HLn.out.2.1; omega) (by have := HLn.out.2.2.1; omega) g W wr (by have := HRow.out.1; rw [List.append_assoc]; exact this))
        go_wp2_with fail
        refine HC.out.mono ?_
        rintro e w7 ⟨rfl, hS2⟩
        have HRow2 : Hid (SR W g (P ++ (A1 ++ (B1 ++ (A2 ++ (B2 ++ Q))))) w7) := Lib.hid (by rw [← List.append_assoc]; exact hS2)
        clear hS2 HRow HC
        by_cases e3 : a < i
        · have x3 : decide (a < i) = true := decide_eq_true e3
          by_cases e4 : i < mid
          · have x4 : decide (i < mid) = true := decide_eq_true e4
            have HC := Lib.hid (IH.out P A1 B1 (A2 ++ (B2 ++ Q)) a i mid w7 (by have h1 := HLn.out.1; have h2 := HLn.out.2.2.1; have h3 := HA.out; omega) (by have := HLn.out.1; omega) (by have := HLn.out.2.2.1; omega) (by have := HTot.out; simp only [List.length_append]; omega) HA.out.1 (by have := HLn.out.1; omega) (by have h2 := HLn.out.2.2.1; omega) HSt.out.1 HSt.out.2.2.1 HSm2.out.1 HRow2.out)
            go_wp2_with fail
            refine HC.out.mono ?_
            rintro e w8 ⟨rfl, R1, hp1, hs1, hS2⟩
            have HR1 := Lib.hid (show R1.Perm (A1 ++ B1) ∧ Sorted' R1 ∧ SR W g (P ++ (R1 ++ (A2 ++ (B2 ++ Q)))) w8 from ⟨hp1, hs1, hS2⟩)
            clear hp1 hs1 hS2 HRow2 HC
            have HL1 : Hid (R1.length = mid - a) := Lib.hid (by rw [HR1.out.1.length_eq, List.length_append, HLn.out.1, HLn.out.2.2.1]; omega)
            by_cases e5 : mid < en
            · have x5 : decide (mid < en) = true := decide_eq_true e5
              by_cases e6 : en < b
              · have x6 : decide (en < b) = true := decide_eq_true e6
                have HC := Lib.hid (IH.out (P ++ R1) A2 B2 Q mid en b w8 (by have h1 := HLn.out.2.1; have h2 := HLn.out.2.2.2; have h3 := HA.out; omega) (by have := HLn.out.2.1; omega) (by have := HLn.out.2.2.2; omega) (by have h0 := HTot.out; have h1 := HL1.out; have h2 := HLn.out; simp only [List.length_append]; omega) (by have h1 := HL1.out; have h2 := HA.out.1; rw [List.length_append]; omega) (by have := HLn.out.2.1; omega) (by have h2 := HLn.out.2.2.2; omega) HSt.out.2.1 HSt.out.2.2.2 HSm2.out.2 (by rw [List.append_assoc]; exact HR1.out.2.2))
                go_wp2_with fail
                refine HC.out.mono ?_
                rintro e w9 ⟨rfl, R2, hp2, hs2, hS2⟩
                have HEnd : Hid (∃ R, R.Perm (A ++ B) ∧ Sorted' R ∧ SR W g (P ++ (R ++ Q)) w9) := Lib.hid ⟨R1 ++ R2, (HHalf.out R1 R2 HR1.out.1 hp2 HR1.out.2.1 hs2).1, (HHalf.out R1 R2 HR1.out.1 hp2 HR1.out.2.1 hs2).2, by simpa [List.append_assoc] using hS2⟩
                clear hp2 hs2 hS2
                go_wp2
                go_end0
                exact ⟨rfl, HEnd.out⟩
              · have x6 : decide (en < b) = false := decide_eq_false e6
                have HEnd : Hid (∃ R, R.Perm (A ++ B) ∧ Sorted' R ∧ SR W g (P ++ (R ++ Q)) w8) := Lib.hid (by
                  have h0 : B2 = [] := List.eq_nil_of_length_eq_zero (by have := HLn.out.2.2.2; omega)
                  have h := HHalf.out R1 A2 HR1.out.1 (by rw [h0, List.append_nil]) HR1.out.2.1 HSt.out.2.1
                  have h2 := HR1.out.2.2
                  rw [h0] at h2
                  exact ⟨_, h.1, h.2, by simpa [List.append_assoc] using h2⟩)
                go_wp2
                go_end0
                exact ⟨rfl, HEnd.out⟩
            · have x5 : decide (mid < en) = false := decide_eq_false e5
              have HEnd : Hid (∃ R, R.Perm (A ++ B) ∧ Sorted' R ∧ SR W g (P ++ (R ++ Q)) w8) := Lib.hid (by
                have h0 : A2 = [] := List.eq_nil_of_length_eq_zero (by have := HLn.out.2.1; omega)
                have h := HHalf.out R1 B2 HR1.out.1 (by rw [h0, List.nil_append]) HR1.out.2.1 HSt.out.2.2.2
                have h2 := HR1.out.2.2
                rw [h0] at h2
                exact ⟨_, h.1, h.2, by simpa [List.append_assoc] using h2⟩)
              go_wp2
              go_end0
              exact ⟨rfl, HEnd.out⟩
          · have x4 : decide (i < mid) = false := decide_eq_false e4
            have HR1 : Hid (A1.Perm (A1 ++ B1) ∧ Sorted' A1 ∧ SR W g (P ++ (A1 ++ (A2 ++ (B2 ++ Q)))) w7) := Lib.hid (by
              have : B1 = [] := List.eq_nil_of_length_eq_zero (by have := HLn.out.2.2.1; omega)
              have h := HRow2.out
              rw [this] at h ⊢
              exact ⟨by rw [List.append_nil], HSt.out.1, h⟩)
            clear HRow2
            obtain ⟨R1, hR1⟩ : ∃ R1, R1 = A1 := ⟨_, rfl⟩
            have HR1 : Hid (R1.Perm (A1 ++ B1) ∧ Sorted' R1 ∧ SR W g (P ++ (R1 ++ (A2 ++ (B2 ++ Q)))) w7) := Lib.hid (by rw [hR1]; exact HR1.out)
            clear hR1
            have HL1 : Hid (R1.length = mid - a) := Lib.hid (by rw [HR1.out.1.length_eq, List.length_append, HLn.out.1, HLn.out.2.2.1]; omega)
            by_cases e5 : mid < en
            · have x5 : decide (mid < en) = true := decide_eq_true e5
              by_cases e6 : en < b
              · have x6 : decide (en < b) = true := decide_eq_true e6
                have HC := Lib.hid (IH.out (P ++ R1) A2 B2 Q mid en b w7 (by have h1 := HLn.out.2.1; have h2 := HLn.out.2.2.2; have h3 := HA.out; omega) (by have := HLn.out.2.1; omega) (by have := HLn.out.2.2.2; omega) (by have h0 := HTot.out; have h1 := HL1.out; have h2 := HLn.out; simp only [List.length_append]; omega) (by have h1 := HL1.out; have h2 := HA.out.1; rw [List.length_append]; omega) (by have := HLn.out.2.1; omega) (by have h2 := HLn.out.2.2.2; omega) HSt.out.2.1 HSt.out.2.2.2 HSm2.out.2 (by rw [List.append_assoc]; exact HR1.out.2.2))
                go_wp2_with fail
                refine HC.out.mono ?_
                rintro e w9 ⟨rfl, R2, hp2, hs2, hS2⟩
                have HEnd : Hid (∃ R, R.Perm (A ++ B) ∧ Sorted' R ∧ SR W g (P ++ (R ++ Q)) w9) := Lib.hid ⟨R1 ++ R2, (HHalf.out R1 R2 HR1.out.1 hp2 HR1.out.2.1 hs2).1, (HHalf.out R1 R2 HR1.out.1 hp2 HR1.out.2.1 hs2).2, by simpa [List.append_assoc] using hS2⟩
                clear hp2 hs2 hS2
                go_wp2
                go_end0
                exact ⟨rfl, HEnd.out⟩
              · have x6 : decide (en < b) = false := decide_eq_false e6
                have HEnd : Hid (∃ R, R.Perm (A ++ B) ∧ Sorted' R ∧ SR W g (P ++ (R ++ Q)) w7) := Lib.hid (by
                  have h0 : B2 = [] := List.eq_nil_of_length_eq_zero (by have := HLn.out.2.2.2; omega)
                  have h := HHalf.out R1 A2 HR1.out.1 (by rw [h0, List.append_nil]) HR1.out.2.1 HSt.out.2.1
                  have h2 := HR1.out.2.2
                  rw [h0] at h2
                  exact ⟨_, h.1, h.2, by simpa [List.append_assoc] using h2⟩)
                go_wp2
                go_end0
                exact ⟨rfl, HEnd.out⟩
            · have x5 : decide (mid < en) = false := decide_eq_false e5
              have HEnd : Hid (∃ R, R.Perm (A ++ B) ∧ Sorted' R ∧ SR W g (P ++ (R ++ Q)) w7) := Lib.hid (by
                have h0 : A2 = [] := List.eq_nil_of_length_eq_zero (by have := HLn.out.2.1; omega)
                have h := HHalf.out R1 B2 HR1.out.1 (by rw [h0, List.nil_append]) HR1.out.2.1 HSt.out.2.2.2
                have h2 := HR1.out.2.2
                rw [h0] at h2
                exact ⟨_, h.1, h.2, by simpa [List.append_assoc] using h2⟩)
              go_wp2
              go_end0
              exact ⟨rfl, HEnd.out⟩
        · have x3 : decide (a < i) = false := decide_eq_false e3
          have HR1 : Hid (B1.Perm (A1 ++ B1) ∧ Sorted' B1 ∧ SR W g (P ++ (B1 ++ (A2 ++ (B2 ++ Q)))) w7) := Lib.hid (by
            have : A1 = [] := List.eq_nil_of_length_eq_zero (by have := HLn.out.1; omega)
            have h := HRow2.out
            rw [this] at h ⊢
            exact ⟨List.Perm.refl _, HSt.out.2.2.1, h⟩)
          clear HRow2
          obtain ⟨R1, hR1⟩ : ∃ R1, R1 = B1 := ⟨_, rfl⟩
          have HR1 : Hid (R1.Perm (A1 ++ B1) ∧ Sorted' R1 ∧ SR W g (P ++ (R1 ++ (A2 ++ (B2 ++ Q)))) w7) := Lib.hid (by rw [hR1]; exact HR1.out)
          clear hR1
          have HL1 : Hid (R1.length = mid - a) := Lib.hid (by rw [HR1.out.1.length_eq, List.length_append, HLn.out.1, HLn.out.2.2.1]; omega)
          by_cases e5 : mid < en
          · have x5 : decide (mid < en) = true := decide_eq_true e5
            by_cases e6 : en < b
            · have x6 : decide (en < b) = true := decide_eq_true e6
              have HC := Lib.hid (IH.out (P ++ R1) A2 B2 Q mid en b w7 (by have h1 := HLn.out.2.1; have h2 := HLn.out.2.2.2; have h3 := HA.out; omega) (by have := HLn.out.2.1; omega) (by have := HLn.out.2.2.2; omega) (by have h0 := HTot.out; have h1 := HL1.out; have h2 := HLn.out; simp only [List.length_append]; omega) (by have h1 := HL1.out; have h2 := HA.out.1; rw [List.length_append]; omega) (by have := HLn.out.2.1; omega) (by have h2 := HLn.out.2.2.2; omega) HSt.out.2.1 HSt.out.2.2.2 HSm2.out.2 (by rw [List.append_assoc]; exact HR1.out.2.2))
              go_wp2_with fail
              refine HC.out.mono ?_
              rintro e w9 ⟨rfl, R2, hp2, hs2, hS2⟩
              have HEnd : Hid (∃ R, R.Perm (A ++ B) ∧ Sorted' R ∧ SR W g (P ++ (R ++ Q)) w9) := Lib.hid ⟨R1 ++ R2, (HHalf.out R1 R2 HR1.out.1 hp2 HR1.out.2.1 hs2).1, (HHalf.out R1 R2 HR1.out.1 hp2 HR1.out.2.1 hs2).2, by simpa [List.append_assoc] using hS2⟩
              clear hp2 hs2 hS2
              go_wp2
              go_end0
              exact ⟨rfl, HEnd.out⟩
            · have x6 : decide (en < b) = false := decide_eq_false e6
              have HEnd : Hid (∃ R, R.Perm (A ++ B) ∧ Sorted' R ∧ SR W g (P ++ (R ++ Q)) w7) := Lib.hid (by
                have h0 : B2 = [] := List.eq_nil_of_length_eq_zero (by have := HLn.out.2.2.2; omega)
                have h := HHalf.out R1 A2 HR1.out.1 (by rw [h0, List.append_nil]) HR1.out.2.1 HSt.out.2.1
                have h2 := HR1.out.2.2
                rw [h0] at h2
                exact ⟨_, h.1, h.2, by simpa [List.append_assoc] using h2⟩)
              go_wp2
              go_end0
              exact ⟨rfl, HEnd.out⟩
          · have x5 : decide (mid < en) = false := decide_eq_false e5
            have HEnd : Hid (∃ R, R.Perm (A ++ B) ∧ Sorted' R ∧ SR W g (P ++ (R ++ Q)) w7) := Lib.hid (by
              have h0 : A2 = [] := List.eq_nil_of_length_eq_zero (by have := HLn.out.2.1; omega)
              have h := HHalf.out R1 B2 HR1.out.1 (by rw [h0, List.nil_append]) HR1.out.2.1 HSt.out.2.2.2
              have h2 := HR1.out.2.2
              rw [h0] at h2
              exact ⟨_, h.1, h.2, by simpa [List.append_assoc] using h2⟩)
            go_wp2
            go_end0
            exact ⟨rfl, HEnd.out⟩
      · have x2 : decide (m < en) = false := decide_eq_false e2
        have HRow2 : Hid (SR W g (P ++ (A1 ++ (B1 ++ (A2 ++ (B2 ++ Q))))) wr) := Lib.hid (by
          have : B1 = [] := List.eq_nil_of_length_eq_zero (by have := HLn.out.2.2.1; omega)
          have h := HRow.out.1
          rw [this] at h ⊢
          exact h)
        clear HRow
        by_cases e3 : a < i
        · have x3 : decide (a < i) = true := decide_eq_true e3
          by_cases e4 : i < mid
          · have x4 : decide (i < mid) = true := decide_eq_true e4
            have HC := Lib.hid (IH.out P A1 B1 (A2 ++ (B2 ++ Q)) a i mid wr (by have h1 := HLn.out.1; have h2 := HLn.out.2.2.1; have h3 := HA.out; omega) (by have := HLn.out.1; omega) (by have := HLn.out.2.2.1; omega) (by have := HTot.out; simp only [List.length_append]; omega) HA.out.1 (by have := HLn.out.1; omega) (by have h2 := HLn.out.2.2.1; omega) HSt.out.1 HSt.out.2.2.1 HSm2.out.1 HRow2.out)
            go_wp2_with fail
            refine HC.out.mono ?_
            rintro e w8 ⟨rfl, R1, hp1, hs1, hS2⟩
            have HR1 := Lib.hid (show R1.Perm (A1 ++ B1) ∧ Sorted' R1 ∧ SR W g (P ++ (R1 ++ (A2 ++ (B2 ++ Q)))) w8 from ⟨hp1, hs1, hS2⟩)
            clear hp1 hs1 hS2 HRow2 HC
            have HL1 : Hid (R1.length = mid - a) := Lib.hid (by rw [HR1.out.1.length_eq, List.length_append, HLn.out.1, HLn.out.2.2.1]; omega)
            by_cases e5 : mid < en
            · have x5 : decide (mid < en) = true := decide_eq_true e5
              by_cases e6 : en < b
              · have x6 : decide (en < b) = true := decide_eq_true e6
                have HC := Lib.hid (IH.out (P ++ R1) A2 B2 Q mid en b w8 (by have h1 := HLn.out.2.1; have h2 := HLn.out.2.2.2; have h3 := HA.out; omega) (by have := HLn.out.2.1; omega) (by have := HLn.out.2.2.2; omega) (by have h0 := HTot.out; have h1 := HL1.out; have h2 := HLn.out; simp only [List.length_append]; omega) (by have h1 := HL1.out; have h2 := HA.out.1; rw [List.length_append]; omega) (by have := HLn.out.2.1; omega) (by have h2 := HLn.out.2.2.2; omega) HSt.out.2.1 HSt.out.2.2.2 HSm2.out.2 (by rw [List.append_assoc]; exact HR1.out.2.2))
                go_wp2_with fail
                refine HC.out.mono ?_
                rintro e w9 ⟨rfl, R2, hp2, hs2, hS2⟩
                have HEnd : Hid (∃ R, R.Perm (A ++ B) ∧ Sorted' R ∧ SR W g (P ++ (R ++ Q)) w9) := Lib.hid ⟨R1 ++ R2, (HHalf.out R1 R2 HR1.out.1 hp2 HR1.out.2.1 hs2).1, (HHalf.out R1 R2 HR1.out.1 hp2 HR1.out.2.1 hs2).2, by simpa [List.append_assoc] using hS2⟩
                clear hp2 hs2 hS2
                go_wp2
                go_end0
                exact ⟨rfl, HEnd.out⟩
              · have x6 : decide (en < b) = false := decide_eq_false e6
                have HEnd : Hid (∃ R, R.Perm (A ++ B) ∧ Sorted' R ∧ SR W g (P ++ (R ++ Q)) w8) := Lib.hid (by
                  have h0 : B2 = [] := List.eq_nil_of_length_eq_zero (by have := HLn.out.2.2.2; omega)
                  have h := HHalf.out R1 A2 HR1.out.1 (by rw [h0, List.append_nil]) HR1.out.2.1 HSt.out.2.1
                  have h2 := HR1.out.2.2
                  rw [h0] at h2
                  exact ⟨_, h.1, h.2, by simpa [List.append_assoc] using h2⟩)
                go_wp2
                go_end0
                exact ⟨rfl, HEnd.out⟩
            · have x5 : decide (mid < en) = false := decide_eq_false e5
              have HEnd : Hid (∃ R, R.Perm (A ++ B) ∧ Sorted' R ∧ SR W g (P ++ (R ++ Q)) w8) := Lib.hid (by
                have h0 : A2 = [] := List.eq_nil_of_length_eq_zero (by have := HLn.out.2.1; omega)
                have h := HHalf.out R1 B2 HR1.out.1 (by rw [h0, List.nil_append]) HR1.out.2.1 HSt.out.2.2.2
                have h2 := HR1.out.2.2
                rw [h0] at h2
                exact ⟨_, h.1, h.2, by simpa [List.append_assoc] using h2⟩)
              go_wp2
              go_end0
              exact ⟨rfl, HEnd.out⟩
          · have x4 : decide (i < mid) = false := decide_eq_false e4
            have HR1 : Hid (A1.Perm (A1 ++ B1) ∧ Sorted' A1 ∧ SR W g (P ++ (A1 ++ (A2 ++ (B2 ++ Q)))) wr) := Lib.hid (by
              have : B1 = [] := List.eq_nil_of_length_eq_zero (by have := HLn.out.2.2.1; omega)
              have h := HRow2.out
              rw [this] at h ⊢
              exact ⟨by rw [List.append_nil], HSt.out.1, h⟩)
            clear HRow2
            obtain ⟨R1, hR1⟩ : ∃ R1, R1 = A1 := ⟨_, rfl⟩
            have HR1 : Hid (R1.Perm (A1 ++ B1) ∧ Sorted' R1 ∧ SR W g (P ++ (R1 ++ (A2 ++ (B2 ++ Q)))) wr) := Lib.hid (by rw [hR1]; exact HR1.out)
            clear hR1
            have HL1 : Hid (R1.length = mid - a) := Lib.hid (by rw [HR1.out.1.length_eq, List.length_append, HLn.out.1, HLn.out.2.2.1]; omega)
            by_cases e5 : mid < en
            · have x5 : decide (mid < en) = true := decide_eq_true e5
              by_cases e6 : en < b
              · have x6 : decide (en < b) = true := decide_eq_true e6
                have HC := Lib.hid (IH.out (P ++ R1) A2 B2 Q mid en b wr (by have h1 := HLn.out.2.1; have h2 := HLn.out.2.2.2; have h3 := HA.out; omega) (by have := HLn.out.2.1; omega) (by have := HLn.out.2.2.2; omega) (by have h0 := HTot.out; have h1 := HL1.out; have h2 := HLn.out; simp only [List.length_append]; omega) (by have h1 := HL1.out; have h2 := HA.out.1; rw [List.length_append]; omega) (by have := HLn.out.2.1; omega) (by have h2 := HLn.out.2.2.2; omega) HSt.out.2.1 HSt.out.2.2.2 HSm2.out.2 (by rw [List.append_assoc]; exact HR1.out.2.2))
                go_wp2_with fail
                refine HC.out.mono ?_
                rintro e w9 ⟨rfl, R2, hp2, hs2, hS2⟩
                have HEnd : Hid (∃ R, R.Perm (A ++ B) ∧ Sorted' R ∧ SR W g (P ++ (R ++ Q)) w9) := Lib.hid ⟨R1 ++ R2, (HHalf.out R1 R2 HR1.out.1 hp2 HR1.out.2.1 hs2).1, (HHalf.out R1 R2 HR1.out.1 hp2 HR1.out.2.1 hs2).2, by simpa [List.append_assoc] using hS2⟩
                clear hp2 hs2 hS2
                go_wp2
                go_end0
                exact ⟨rfl, HEnd.out⟩
              · have x6 : decide (en < b) = false := decide_eq_false e6
                have HEnd : Hid (∃ R, R.Perm (A ++ B) ∧ Sorted' R ∧ SR W g (P ++ (R ++ Q)) wr) := Lib.hid (by
                  have h0 : B2 = [] := List.eq_nil_of_length_eq_zero (by have := HLn.out.2.2.2; omega)
                  have h := HHalf.out R1 A2 HR1.out.1 (by rw [h0, List.append_nil]) HR1.out.2.1 HSt.out.2.1
                  have h2 := HR1.out.2.2
                  rw [h0] at h2
                  exact ⟨_, h.1, h.2, by simpa [List.append_assoc] using h2⟩)
                go_wp2
                go_end0
                exact ⟨rfl, HEnd.out⟩
            · have x5 : decide (mid < en) = false := decide_eq_false e5
              have HEnd : Hid (∃ R, R.Perm (A ++ B) ∧ Sorted' R ∧ SR W g (P ++ (R ++ Q)) wr) := Lib.hid (by
                have h0 : A2 = [] := List.eq_nil_of_length_eq_zero (by have := HLn.out.2.1; omega)
                have h := HHalf.out R1 B2 HR1.out.1 (by rw [h0, List.nil_append]) HR1.out.2.1 HSt.out.2.2.2
                have h2 := HR1.out.2.2
                rw [h0] at h2
                exact ⟨_, h.1, h.2, by simpa [List.append_assoc] using h2⟩)
              go_wp2
              go_end0
              exact ⟨rfl, HEnd.out⟩
        · have x3 : decide (a < i) = false := decide_eq_false e3
          have HR1 : Hid (B1.Perm (A1 ++ B1) ∧ Sorted' B1 ∧ SR W g (P ++ (B1 ++ (A2 ++ (B2 ++ Q)))) wr) := Lib.hid (by
            have : A1 = [] := List.eq_nil_of_length_eq_zero (by have := HLn.out.1; omega)
            have h := HRow2.out
            rw [this] at h ⊢
            exact ⟨List.Perm.refl _, HSt.out.2.2.1, h⟩)
          clear HRow2
          obtain ⟨R1, hR1⟩ : ∃ R1, R1 = B1 := ⟨_, rfl⟩
          have HR1 : Hid (R1.Perm (A1 ++ B1) ∧ Sorted' R1 ∧ SR W g (P ++ (R1 ++ (A2 ++ (B2 ++ Q)))) wr) := Lib.hid (by rw [hR1]; exact HR1.out)
          clear hR1
          have HL1 : Hid (R1.length = mid - a) := Lib.hid (by rw [HR1.out.1.length_eq, List.length_append, HLn.out.1, HLn.out.2.2.1]; omega)
          by_cases e5 : mid < en
          · have x5 : decide (mid < en) = true := decide_eq_true e5
            by_cases e6 : en < b
            · have x6 : decide (en < b) = true := decide_eq_true e6
              have HC := Lib.hid (IH.out (P ++ R1) A2 B2 Q mid en b wr (by have h1 := HLn.out.2.1; have h2 := HLn.out.2.2.2; have h3 := HA.out; omega) (by have := HLn.out.2.1; omega) (by have := HLn.out.2.2.2; omega) (by have h0 := HTot.out; have h1 := HL1.out; have h2 := HLn.out; simp only [List.length_append]; omega) (by have h1 := HL1.out; have h2 := HA.out.1; rw [List.length_append]; omega) (by have := HLn.out.2.1; omega) (by have h2 := HLn.out.2.2.2; omega) HSt.out.2.1 HSt.out.2.2.2 HSm2.out.2 (by rw [List.append_assoc]; exact HR1.out.2.2))
              go_wp2_with fail
              refine HC.out.mono ?_
              rintro e w9 ⟨rfl, R2, hp2, hs2, hS2⟩
              have HEnd : Hid (∃ R, R.Perm (A ++ B) ∧ Sorted' R ∧ SR W g (P ++ (R ++ Q)) w9) := Lib.hid ⟨R1 ++ R2, (HHalf.out R1 R2 HR1.out.1 hp2 HR1.out.2.1 hs2).1, (HHalf.out R1 R2 HR1.out.1 hp2 HR1.out.2.1 hs2).2, by simpa [List.append_assoc] using hS2⟩
              clear hp2 hs2 hS2
              go_wp2
              go_end0
              exact ⟨rfl, HEnd.out⟩
            · have x6 : decide (en < b) = false := decide_eq_false e6
              have HEnd : Hid (∃ R, R.Perm (A ++ B) ∧ Sorted' R ∧ SR W g (P ++ (R ++ Q)) wr) := Lib.hid (by
                have h0 : B2 = [] := List.eq_nil_of_length_eq_zero (by have := HLn.out.2.2.2; omega)
                have h := HHalf.out R1 A2 HR1.out.1 (by rw [h0, List.append_nil]) HR1.out.2.1 HSt.out.2.1
                have h2 := HR1.out.2.2
                rw [h0] at h2
                exact ⟨_, h.1, h.2, by simpa [List.append_assoc] using h2⟩)
              go_wp2
              go_end0
              exact ⟨rfl, HEnd.out⟩
          · have x5 : decide (mid < en) = false := decide_eq_false e5
            have HEnd : Hid (∃ R, R.Perm (A ++ B) ∧ Sorted' R ∧ SR W g (P ++ (R ++ Q)) wr) := Lib.hid (by
              have h0 : A2 = [] := List.eq_nil_of_length_eq_zero (by have := HLn.out.2.1; omega)
              have h := HHalf.out R1 B2 HR1.out.1 (by rw [h0, List.nil_append]) HR1.out.2.1 HSt.out.2.2.2
              have h2 := HR1.out.2.2
              rw [h0] at h2
              exact ⟨_, h.1, h.2, by simpa [List.append_assoc] using h2⟩)
            go_wp2
            go_end0
            exact ⟨rfl, HEnd.out⟩
    · have x1 : decide (i < m) = false := decide_eq_false e1
      have HRow2 : Hid (SR W g (P ++ (A1 ++ (B1 ++ (A2 ++ (B2 ++ Q))))) wr) := Lib.hid (by
        have : A2 = [] := List.eq_nil_of_length_eq_zero (by have := HLn.out.2.1; omega)
        have h := HRow.out.1
        rw [this] at h ⊢
        exact h)
      clear HRow
      by_cases e3 : a < i
      · have x3 : decide (a < i) = true := decide_eq_true e3
        by_cases e4 : i < mid
        · have x4 : decide (i < mid) = true := decide_eq_true e4
          have HC := Lib.hid (IH.out P A1 B1 (A2 ++ (B2 ++ Q)) a i mid wr (by have h1 := HLn.out.1; have h2 := HLn.out.2.2.1; have h3 := HA.out; omega) (by have := HLn.out.1; omega) (by have := HLn.out.2.2.1; omega) (by have := HTot.out; simp only [List.length_append]; omega) HA.out.1 (by have := HLn.out.1; omega) (by have h2 := HLn.out.2.2.1; omega) HSt.out.1 HSt.out.2.2.1 HSm2.out.1 HRow2.out)
          go_wp2_with fail
          refine HC.out.mono ?_
          rintro e w8 ⟨rfl, R1, hp1, hs1, hS2⟩
          have HR1 := Lib.hid (show R1.Perm (A1 ++ B1) ∧ Sorted' R1 ∧ SR W g (P ++ (R1 ++ (A2 ++ (B2 ++ Q)))) w8 from ⟨hp1, hs1, hS2⟩)
          clear hp1 hs1 hS2 HRow2 HC
          have HL1 : Hid (R1.length = mid - a) := Lib.hid (by rw [HR1.out.1.length_eq, List.length_append, HLn.out.1, HLn.out.2.2.1]; omega)
          by_cases e5 : mid < en
          · have x5 : decide (mid < en) = true := decide_eq_true e5
            by_cases e6 : en < b
            · have x6 : decide (en < b) = true := decide_eq_true e6
              have HC := Lib.hid (IH.out (P ++ R1) A2 B2 Q mid en b w8 (by have h1 := HLn.out.2.1; have h2 := HLn.out.2.2.2; have h3 := HA.out; omega) (by have := HLn.out.2.1; omega) (by have := HLn.out.2.2.2; omega) (by have h0 := HTot.out; have h1 := HL1.out; have h2 := HLn.out; simp only [List.length_append]; omega) (by have h1 := HL1.out; have h2 := HA.out.1; rw [List.length_append]; omega) (by have := HLn.out.2.1; omega) (by have h2 := HLn.out.2.2.2; omega) HSt.out.2.1 HSt.out.2.2.2 HSm2.out.2 (by rw [List.append_assoc]; exact HR1.out.2.2))
              go_wp2_with fail
              refine HC.out.mono ?_
              rintro e w9 ⟨rfl, R2, hp2, hs2, hS2⟩
              have HEnd : Hid (∃ R, R.Perm (A ++ B) ∧ Sorted' R ∧ SR W g (P ++ (R ++ Q)) w9) := Lib.hid ⟨R1 ++ R2, (HHalf.out R1 R2 HR1.out.1 hp2 HR1.out.2.1 hs2).1, (HHalf.out R1 R2 HR1.out.1 hp2 HR1.out.2.1 hs2).2, by simpa [List.append_assoc] using hS2⟩
              clear hp2 hs2 hS2
              go_wp2
              go_end0
              exact ⟨rfl, HEnd.out⟩
            · have x6 : decide (en < b) = false := decide_eq_false e6
              have HEnd : Hid (∃ R, R.Perm (A ++ B) ∧ Sorted' R ∧ SR W g (P ++ (R ++ Q)) w8) := Lib.hid (by
                have h0 : B2 = [] := List.eq_nil_of_length_eq_zero (by have := HLn.out.2.2.2; omega)
                have h := HHalf.out R1 A2 HR1.out.1 (by rw [h0, List.append_nil]) HR1.out.2.1 HSt.out.2.1
                have h2 := HR1.out.2.2
                rw [h0] at h2
                exact ⟨_, h.1, h.2, by simpa [List.append_assoc] using h2⟩)
              go_wp2
              go_end0
              exact ⟨rfl, HEnd.out⟩
          · have x5 : decide (mid < en) = false := decide_eq_false e5
            have HEnd : Hid (∃ R, R.Perm (A ++ B) ∧ Sorted' R ∧ SR W g (P ++ (R ++ Q)) w8) := Lib.hid (by
              have h0 : A2 = [] := List.eq_nil_of_length_eq_zero (by have := HLn.out.2.1; omega)
              have h := HHalf.out R1 B2 HR1.out.1 (by rw [h0, List.nil_append]) HR1.out.2.1 HSt.out.2.2.2
              have h2 := HR1.out.2.2
              rw [h0] at h2
              exact ⟨_, h.1, h.2, by simpa [List.append_assoc] using h2⟩)
            go_wp2
            go_end0
            exact ⟨rfl, HEnd.out⟩
        · have x4 : decide (i < mid) = false := decide_eq_false e4
          have HR1 : Hid (A1.Perm (A1 ++ B1) ∧ Sorted' A1 ∧ SR W g (P ++ (A1 ++ (A2 ++ (B2 ++ Q)))) wr) := Lib.hid (by
            have : B1 = [] := List.eq_nil_of_length_eq_zero (by have := HLn.out.2.2.1; omega)
            have h := HRow2.out
            rw [this] at h ⊢
            exact ⟨by rw [List.append_nil], HSt.out.1, h⟩)
          clear HRow2
          obtain ⟨R1, hR1⟩ : ∃ R1, R1 = A1 := ⟨_, rfl⟩
          have HR1 : Hid (R1.Perm (A1 ++ B1) ∧ Sorted' R1 ∧ SR W g (P ++ (R1 ++ (A2 ++ (B2 ++ Q)))) wr) := Lib.hid (by rw [hR1]; exact HR1.out)
          clear hR1
          have HL1 : Hid (R1.length = mid - a) := Lib.hid (by rw [HR1.out.1.length_eq, List.length_append, HLn.out.1, HLn.out.2.2.1]; omega)
          by_cases e5 : mid < en
          · have x5 : decide (mid < en) = true := decide_eq_true e5
            by_cases e6 : en < b
            · have x6 : decide (en < b) = true := decide_eq_true e6
              have HC := Lib.hid (IH.out (P ++ R1) A2 B2 Q mid en b wr (by have h1 := HLn.out.2.1; have h2 := HLn.out.2.2.2; have h3 := HA.out; omega) (by have := HLn.out.2.1; omega) (by have := HLn.out.2.2.2; omega) (by have h0 := HTot.out; have h1 := HL1.out; have h2 := HLn.out; simp only [List.length_append]; omega) (by have h1 := HL1.out; have h2 := HA.out.1; rw [List.length_append]; omega) (by have := HLn.out.2.1; omega) (by have h2 := HLn.out.2.2.2; omega) HSt.out.2.1 HSt.out.2.2.2 HSm2.out.2 (by rw [List.append_assoc]; exact HR1.out.2.2))
              go_wp2_with fail
              refine HC.out.mono ?_
              rintro e w9 ⟨rfl, R2, hp2, hs2, hS2⟩
              have HEnd : Hid (∃ R, R.Perm (A ++ B) ∧ Sorted' R ∧ SR W g (P ++ (R ++ Q)) w9) := Lib.hid ⟨R1 ++ R2, (HHalf.out R1 R2 HR1.out.1 hp2 HR1.out.2.1 hs2).1, (HHalf.out R1 R2 HR1.out.1 hp2 HR1.out.2.1 hs2).2, by simpa [List.append_assoc] using hS2⟩
              clear hp2 hs2 hS2
              go_wp2
              go_end0
              exact ⟨rfl, HEnd.out⟩
            · have x6 : decide (en < b) = false := decide_eq_false e6
              have HEnd : Hid (∃ R, R.Perm (A ++ B) ∧ Sorted' R ∧ SR W g (P ++ (R ++ Q)) wr) := Lib.hid (by
                have h0 : B2 = [] := List.eq_nil_of_length_eq_zero (by have := HLn.out.2.2.2; omega)
                have h := HHalf.out R1 A2 HR1.out.1 (by rw [h0, List.append_nil]) HR1.out.2.1 HSt.out.2.1
                have h2 := HR1.out.2.2
                rw [h0] at h2
                exact ⟨_, h.1, h.2, by simpa [List.append_assoc] using h2⟩)
              go_wp2
              go_end0
              exact ⟨rfl, HEnd.out⟩
          · have x5 : decide (mid < en) = false := decide_eq_false e5
            have HEnd : Hid (∃ R, R.Perm (A ++ B) ∧ Sorted' R ∧ SR W g (P ++ (R ++ Q)) wr) := Lib.hid (by
              have h0 : A2 = [] := List.eq_nil_of_length_eq_zero (by have := HLn.out.2.1; omega)
              have h := HHalf.out R1 B2 HR1.out.1 (by rw [h0, List.nil_append]) HR1.out.2.1 HSt.out.2.2.2
              have h2 := HR1.out.2.2
              rw [h0] at h2
              exact ⟨_, h.1, h.2, by simpa [List.append_assoc] using h2⟩)
            go_wp2
            go_end0
            exact ⟨rfl, HEnd.out⟩
      · have x3 : decide (a < i) = false := decide_eq_false e3
        have HR1 : Hid (B1.Perm (A1 ++ B1) ∧ Sorted' B1 ∧ SR W g (P ++ (B1 ++ (A2 ++ (B2 ++ Q)))) wr) := Lib.hid (by
          have : A1 = [] := List.eq_nil_of_length_eq_zero (by have := HLn.out.1; omega)
          have h := HRow2.out
          rw [this] at h ⊢
          exact ⟨List.Perm.refl _, HSt.out.2.2.1, h⟩)
        clear HRow2
        obtain ⟨R1, hR1⟩ : ∃ R1, R1 = B1 := ⟨_, rfl⟩
        have HR1 : Hid (R1.Perm (A1 ++ B1) ∧ Sorted' R1 ∧ SR W g (P ++ (R1 ++ (A2 ++ (B2 ++ Q)))) wr) := Lib.hid (by rw [hR1]; exact HR1.out)
        clear hR1
        have HL1 : Hid (R1.length = mid - a) := Lib.hid (by rw [HR1.out.1.length_eq, List.length_append, HLn.out.1, HLn.out.2.2.1]; omega)
        by_cases e5 : mid < en
        · have x5 : decide (mid < en) = true := decide_eq_true e5
          by_cases e6 : en < b
          · have x6 : decide (en < b) = true := decide_eq_true e6
            have HC := Lib.hid (IH.out (P ++ R1) A2 B2 Q mid en b wr (by have h1 := HLn.out.2.1; have h2 := HLn.out.2.2.2; have h3 := HA.out; omega) (by have := HLn.out.2.1; omega) (by have := HLn.out.2.2.2; omega) (by have h0 := HTot.out; have h1 := HL1.out; have h2 := HLn.out; simp only [List.length_append]; omega) (by have h1 := HL1.out; have h2 := HA.out.1; rw [List.length_append]; omega) (by have := HLn.out.2.1; omega) (by have h2 := HLn.out.2.2.2; omega) HSt.out.2.1 HSt.out.2.2.2 HSm2.out.2 (by rw [List.append_assoc]; exact HR1.out.2.2))
            go_wp2_with fail
            refine HC.out.mono ?_
            rintro e w9 ⟨rfl, R2, hp2, hs2, hS2⟩
            have HEnd : Hid (∃ R, R.Perm (A ++ B) ∧ Sorted' R ∧ SR W g (P ++ (R ++ Q)) w9) := Lib.hid ⟨R1 ++ R2, (HHalf.out R1 R2 HR1.out.1 hp2 HR1.out.2.1 hs2).1, (HHalf.out R1 R2 HR1.out.1 hp2 HR1.out.2.1 hs2).2, by simpa [List.append_assoc] using hS2⟩
            clear hp2 hs2 hS2
            go_wp2
            go_end0
            exact ⟨rfl, HEnd.out⟩
          · have x6 : decide (en < b) = false := decide_eq_false e6
            have HEnd : Hid (∃ R, R.Perm (A ++ B) ∧ Sorted' R ∧ SR W g (P ++ (R ++ Q)) wr) := Lib.hid (by
              have h0 : B2 = [] := List.eq_nil_of_length_eq_zero (by have := HLn.out.2.2.2; omega)
              have h := HHalf.out R1 A2 HR1.out.1 (by rw [h0, List.append_nil]) HR1.out.2.1 HSt.out.2.1
              have h2 := HR1.out.2.2
              rw [h0] at h2
              exact ⟨_, h.1, h.2, by simpa [List.append_assoc] using h2⟩)
            go_wp2
            go_end0
            exact ⟨rfl, HEnd.out⟩
        · have x5 : decide (mid < en) = false := decide_eq_false e5
          have HEnd : Hid (∃ R, R.Perm (A ++ B) ∧ Sorted' R ∧ SR W g (P ++ (R ++ Q)) wr) := Lib.hid (by
            have h0 : A2 = [] := List.eq_nil_of_length_eq_zero (by have := HLn.out.2.1; omega)
            have h := HHalf.out R1 B2 HR1.out.1 (by rw [h0, List.nil_append]) HR1.out.2.1 HSt.out.2.2.2
            have h2 := HR1.out.2.2
            rw [h0] at h2
            exact ⟨_, h.1, h.2, by simpa [List.append_assoc] using h2⟩)
          go_wp2
          go_end0
          exact ⟨rfl, HEnd.out⟩
end Go.Proofs.YtmcoloapiiakbaaGreatDoor.SortW
/-
  slices.symMergeCmpFunc, of whatever two sorted parts.
-/
set_option linter.unusedVariables false
set_option linter.unusedSimpArgs false
namespace Go.Proofs.YtmcoloapiiakbaaGreatDoor.SortW
open Go.RowKit Go.Lib Go.Proofs.YtmcoloapiiakbaaGreatDoor.B Go.Proofs.YtmcoloapiiakbaaGreatDoor.Rd Go.Proofs.YtmcoloapiiakbaaGreatDoor.Utf Go.Proofs.YtmcoloapiiakbaaGreatDoor.TermPure Go.Proofs.YtmcoloapiiakbaaGreatDoor.LinesPure Go.Proofs.YtmcoloapiiakbaaGreatDoor.Tx Go.Proofs.YtmcoloapiiakbaaGreatDoor.Env Go.Proofs.YtmcoloapiiakbaaGreatDoor.Tri Go.Proofs.YtmcoloapiiakbaaGreatDoor.SortP Go.Proofs.YtmcoloapiiakbaaGreatDoor.Print Go.Proofs.YtmcoloapiiakbaaGreatDoor.Cmp Go.Proofs.YtmcoloapiiakbaaGreatDoor.Long

theorem sym_calls (L cap : Nat) (hLs : L ≤ 140737488355328) (g : Nat) (W : World) : ∀ N : Nat, SymC L cap g W N
  | 0 => fun P A B Q a m b w hN hA0 hB0 _ _ _ _ _ _ _ _ => by omega
  | N + 1 => fun P A B Q a m b w hN hA0 hB0 hL ha hm hb hA hB hsm hS => by
    by_cases c1 : A.length = 1
    · obtain ⟨x, rfl⟩ : ∃ x, A = [x] := List.length_eq_one_iff.1 c1
      exact sym_left P B Q x L hL hLs a m b cap ha hm hb hB (hsm x (by simp)) (fun t ht => hsm t (by simp [ht])) g W w hS
    by_cases c2 : B.length = 1
    · obtain ⟨y, rfl⟩ : ∃ y, B = [y] := List.length_eq_one_iff.1 c2
      exact sym_right P A Q y L hL hLs a m b cap ha hm hb (by omega) hA (hsm y (by simp)) (fun t ht => hsm t (by simp [ht])) g W w hS
    by_cases hc : (a + b) / 2 < m
    · exact sym_gen1 L cap hLs g W N (sym_calls L cap hLs g W N) P A B Q a m b w hN hA0 hB0 hL ha hm hb hA hB hsm hS c1 c2 hc
    · exact sym_gen2 L cap hLs g W N (sym_calls L cap hLs g W N) P A B Q a m b w hN hA0 hB0 hL ha hm hb hA hB hsm hS c1 c2 (by omega)
end Go.Proofs.YtmcoloapiiakbaaGreatDoor.SortW
/-
  slices.stableCmpFunc, slices.SortStableFunc, walked.
-/
set_option linter.unusedVariables false
set_option linter.unusedSimpArgs false
namespace Go.Proofs.YtmcoloapiiakbaaGreatDoor.SortW
open Go.RowKit Go.Lib Go.Proofs.YtmcoloapiiakbaaGreatDoor.B Go.Proofs.YtmcoloapiiakbaaGreatDoor.Rd Go.Proofs.YtmcoloapiiakbaaGreatDoor.Utf Go.Proofs.YtmcoloapiiakbaaGreatDoor.TermPure Go.Proofs.YtmcoloapiiakbaaGreatDoor.LinesPure Go.Proofs.YtmcoloapiiakbaaGreatDoor.Tx Go.Proofs.YtmcoloapiiakbaaGreatDoor.Env Go.Proofs.YtmcoloapiiakbaaGreatDoor.Tri Go.Proofs.YtmcoloapiiakbaaGreatDoor.SortP Go.Proofs.YtmcoloapiiakbaaGreatDoor.Print Go.Proofs.YtmcoloapiiakbaaGreatDoor.Cmp Go.Proofs.YtmcoloapiiakbaaGreatDoor.Long

/-- Sorted rows of one length. -/
def Ch (bs : Nat) (C : List (List Triple)) : Prop := ∀ c ∈ C, c.length = bs ∧ Sorted' c
theorem Ch.flat {bs : Nat} : ∀ {C : List (List Triple)}, Ch bs C → C.flatten.length = C.length * bs
  | [], _ => by simp
  | c :: C, h => by
    rw [List.flatten_cons, List.length_append, (h c (by simp)).1, Ch.flat (fun d hd => h d (by simp [hd])), List.length_cons, Nat.add_mul]
    omega
theorem Ch.snoc {bs : Nat} {C : List (List Triple)} {c : List Triple} (h : Ch bs C) (hl : c.length = bs) (hs : Sorted' c) : Ch bs (C ++ [c]) := fun d hd => by
  rcases List.mem_append.1 hd with hd | hd
  · exact h d hd
  · simp at hd
    subst hd
    exact ⟨hl, hs⟩
theorem flat_snoc (C : List (List Triple)) (R : List Triple) : (C ++ [R]).flatten.length = C.flatten.length + R.length := by
  rw [List.flatten_append, List.length_append, List.flatten_cons, List.flatten_nil, List.append_nil]
theorem perm_mid {P A A' Q l : List Triple} (h : (P ++ (A ++ Q)).Perm l) (h2 : A'.Perm A) : (P ++ (A' ++ Q)).Perm l :=
  (List.Perm.append_left P (List.Perm.append_right Q h2)).trans h
set_option maxHeartbeats 25600000 in
set_option maxRecDepth 100000 in
theorem stable_calls (l : List Triple) (L cap : Nat) (hL : l.length = L) (hLs : L ≤ 70368744177664) (hsm : ∀ t ∈ l, SmallT t) (g : Nat) (W w : World) (hS : SR W g l w) :
    Calls Tryz.prog 70 #[.slice (some ⟨g, 0, none⟩) L cap, .int .i64 L, cmpV] w fun e w' => e = .returned (.tuple #[]) ∧ ∃ R, R.Perm l ∧ Sorted' R ∧ SR W g R w' := by
  have HSm : Hid (∀ R : List Triple, R.Perm l → ∀ A : List Triple, (∀ t ∈ A, t ∈ R) → ∀ t ∈ A, SmallT t) := Lib.hid (fun R hR A hA t ht => hsm t (hR.mem_iff.1 (hA t ht)))
  have HL : Hid (∀ R : List Triple, R.Perm l → R.length = L) := Lib.hid (fun R hR => hR.length_eq.trans hL)
  have HS0 := Lib.hid hS
  clear hsm hL hS
  unfold cmpV
  go_enter Tryz.func70, Tryz.ntmps70
  go_wp2
  go_loopw [7, 8] (fun va vb wr => ∃ (a b : Nat) (C : List (List Triple)) (T : List Triple), va = .int .i64 a ∧ vb = .int .i64 b ∧ a ≤ L ∧ b ≤ L + 20 ∧ Hid (b = a + 20 ∧ C.flatten.length = a ∧ Ch 20 C ∧ (C.flatten ++ T).Perm l ∧ SR W g (C.flatten ++ T) wr)) (fun va _ _ => L - (intOf va).toNat)
  case atStart => exact ⟨0, 20, [], l, rfl, rfl, by omega, by omega, Lib.hid ⟨rfl, rfl, fun c hc => (by cases hc), by simp, by simpa using HS0.out⟩⟩
  case round =>
    obtain ⟨a, b, C, T, rfl, rfl, haL, hbL, HR⟩ := hrel
    clear HS0
    by_cases hlt : b ≤ L
    · have hd : decide (b ≤ L) = true := decide_eq_true hlt
      have hlen := HL.out _ HR.out.2.2.2.1
      rw [List.length_append, HR.out.2.1] at hlen
      have hab : a < b := by have := HR.out.1; omega
      have HC := Lib.hid (insertion_calls C.flatten (T.take 20) (T.drop 20) L (by rw [List.take_append_drop]; exact HL.out _ HR.out.2.2.2.1) (by omega) a b cap HR.out.2.1.symm (by rw [List.length_take]; have := HR.out.1; omega) (HSm.out _ HR.out.2.2.2.1 _ (fun t ht => List.mem_append_right _ (List.mem_of_mem_take ht))) g W wr (by rw [List.take_append_drop]; exact HR.out.2.2.2.2))
      have HNext : Hid (∀ R : List Triple, R.Perm (T.take 20) → Sorted' R → (C ++ [R]).flatten.length = b ∧ Ch 20 (C ++ [R]) ∧ ((C ++ [R]).flatten ++ T.drop 20).Perm l ∧ (C ++ [R]).flatten ++ T.drop 20 = C.flatten ++ (R ++ T.drop 20)) := Lib.hid (fun R hp hs => by
        have hRl : R.length = 20 := by rw [hp.length_eq, List.length_take]; have := HR.out.1; omega
        have he : (C ++ [R]).flatten ++ T.drop 20 = C.flatten ++ (R ++ T.drop 20) := by simp
        refine ⟨?_, HR.out.2.2.1.snoc hRl hs, ?_, he⟩
        · have := HR.out.1; have := HR.out.2.1; rw [flat_snoc]; omega
        · rw [he]
          refine perm_mid ?_ hp
          rw [List.take_append_drop]
          exact HR.out.2.2.2.1)
      clear hlen HR
      unfold cmpV at HC
      go_wp2_with fail
      refine HC.out.mono ?_
      rintro e w2 ⟨rfl, R, hp, hs, hS2⟩
      have HN : Hid ((C ++ [R]).flatten.length = b ∧ Ch 20 (C ++ [R]) ∧ ((C ++ [R]).flatten ++ T.drop 20).Perm l ∧ SR W g ((C ++ [R]).flatten ++ T.drop 20) w2) := Lib.hid (by
        obtain ⟨h2, h3, h4, h5⟩ := HNext.out R hp hs
        exact ⟨h2, h3, h4, by rw [h5]; exact hS2⟩)
      clear hp hs hS2
      go_wp2
      go_roundw
      case rel => exact ⟨b, b + 20, C ++ [R], T.drop 20, rfl, by go_num, by omega, by omega, Lib.hid ⟨rfl, HN.out⟩⟩
      case measure => simp [intOf]; omega
    · have hd : decide (b ≤ L) = false := decide_eq_false hlt
      have hlen := HL.out _ HR.out.2.2.2.1
      rw [List.length_append, HR.out.2.1] at hlen
      have HC := Lib.hid (insertion_calls C.flatten T [] L (by rw [List.append_nil]; exact HL.out _ HR.out.2.2.2.1) (by omega) a L cap HR.out.2.1.symm (by omega) (HSm.out _ HR.out.2.2.2.1 _ (fun t ht => List.mem_append_right _ ht)) g W wr (by rw [List.append_nil]; exact HR.out.2.2.2.2))
      have HNext : Hid (∀ R : List Triple, R.Perm T → Sorted' R → R.length < 20 ∧ Ch 20 C ∧ Sorted' R ∧ (C.flatten ++ R).Perm l) := Lib.hid (fun R hp hs => by
        refine ⟨by rw [hp.length_eq]; have := HR.out.1; omega, HR.out.2.2.1, hs, ?_⟩
        exact (List.Perm.append_left _ hp).trans HR.out.2.2.2.1)
      clear hlen HR
      unfold cmpV at HC
      go_wp2_with fail
      refine HC.out.mono ?_
      rintro e w2 ⟨rfl, R0, hp, hs, hS2⟩
      have HN : Hid (R0.length < 20 ∧ Ch 20 C ∧ Sorted' R0 ∧ (C.flatten ++ R0).Perm l ∧ SR W g (C.flatten ++ R0) w2) := Lib.hid (by
        obtain ⟨h1, h2, h3, h4⟩ := HNext.out R0 hp hs
        exact ⟨h1, h2, h3, h4, by rw [List.append_nil] at hS2; exact hS2⟩)
      clear hp hs hS2 HNext
      go_wp2
      go_loopw [6] (fun v6 wr => ∃ (bs : Nat) (C : List (List Triple)) (T : List Triple), v6 = .int .i64 bs ∧ 0 < bs ∧ bs ≤ 140737488355328 ∧ Hid (T.length < bs ∧ Ch bs C ∧ Sorted' T ∧ (C.flatten ++ T).Perm l ∧ SR W g (C.flatten ++ T) wr)) (fun v6 _ => L - (intOf v6).toNat)
      case atStart => exact ⟨20, C, R0, rfl, by omega, by omega, HN⟩
      case round =>
        obtain ⟨bs, C1, T1, rfl, hbs, hbsL, HR⟩ := hrel
        clear HN
        by_cases hbl : bs < L
        · have hd2 : decide (bs < L) = true := decide_eq_true hbl
          obtain ⟨b2, hb2⟩ : ∃ b2, b2 = 2 * bs := ⟨_, rfl⟩
          have wb2 : IntKind.i64.wrap (2 * (bs : Int)) = (b2 : Int) := by rw [IntKind.wrap_i64]; omega
          have wb3 : IntKind.i64.wrap ((bs : Int) * 2) = (b2 : Int) := by rw [IntKind.wrap_i64]; omega
          have HB2 := Lib.hid hb2
          have hb2L : b2 ≤ 140737488355328 := by omega
          have hbb : bs < b2 := by omega
          have HI0 : Hid (b2 = 0 + b2 ∧ ([] : List (List Triple)).flatten.length = 0 ∧ Ch b2 [] ∧ Ch bs C1 ∧ (([] : List (List Triple)).flatten ++ (C1.flatten ++ T1)).Perm l ∧ SR W g (([] : List (List Triple)).flatten ++ (C1.flatten ++ T1)) wr) := Lib.hid ⟨by omega, rfl, fun c hc => (by cases hc), HR.out.2.1, by simpa using HR.out.2.2.2.1, by simpa using HR.out.2.2.2.2⟩
          have HT : Hid (T1.length < bs ∧ Sorted' T1) := Lib.hid ⟨HR.out.1, HR.out.2.2.1⟩
          clear hb2 HR
          go_wp2
          go_loopw [7, 8] (fun va vb wr => ∃ (a b : Nat) (D C' : List (List Triple)), va = .int .i64 a ∧ vb = .int .i64 b ∧ a ≤ L ∧ b ≤ L + b2 ∧ Hid (b = a + b2 ∧ D.flatten.length = a ∧ Ch b2 D ∧ Ch bs C' ∧ (D.flatten ++ (C'.flatten ++ T1)).Perm l ∧ SR W g (D.flatten ++ (C'.flatten ++ T1)) wr)) (fun va _ _ => L - (intOf va).toNat)
          case atStart => exact ⟨0, b2, [], C1, rfl, rfl, by omega, by omega, HI0⟩
          case round =>
            obtain ⟨a, b, D, C', rfl, rfl, haL, hbL, HR⟩ := hrel
            clear HI0
            have hlen := HL.out _ HR.out.2.2.2.2.1
            rw [List.length_append, List.length_append, HR.out.2.1, HR.out.2.2.2.1.flat] at hlen
            by_cases hle : b ≤ L
            · have hd3 : decide (b ≤ L) = true := decide_eq_true hle
              obtain ⟨c1, c2, C2, hC2⟩ : ∃ c1 c2 C2, C' = c1 :: c2 :: C2 := by
                have h1 := HR.out.1
                have h2 := HT.out.1
                have h3 := HB2.out
                match C' with
                | [] => simp at hlen; omega
                | [c] => simp at hlen; omega
                | c1 :: c2 :: C2 => exact ⟨c1, c2, C2, rfl⟩
              subst hC2
              have hc1 := HR.out.2.2.2.1 c1 (by simp)
              have hc2 := HR.out.2.2.2.1 c2 (by simp)
              obtain ⟨m1, hm1⟩ : ∃ m1, m1 = a + bs := ⟨_, rfl⟩
              have wm : IntKind.i64.wrap ((a : Int) + (bs : Int)) = (m1 : Int) := by rw [IntKind.wrap_i64]; omega
              have hab : a < b := by have := HR.out.1; omega
              have wbn : IntKind.i64.wrap ((b : Int) + (b2 : Int)) = ((b + b2 : Nat) : Int) := by rw [IntKind.wrap_i64]; omega
              have he : D.flatten ++ ((c1 :: c2 :: C2).flatten ++ T1) = D.flatten ++ (c1 ++ (c2 ++ (C2.flatten ++ T1))) := by simp
              have HP : Hid ((D.flatten ++ (c1 ++ (c2 ++ (C2.flatten ++ T1)))).Perm l ∧ SR W g (D.flatten ++ (c1 ++ (c2 ++ (C2.flatten ++ T1)))) wr) := Lib.hid (by rw [← he]; exact HR.out.2.2.2.2)
              have HC := Lib.hid (sym_calls L cap (by omega) g W (c1.length + c2.length) D.flatten c1 c2 (C2.flatten ++ T1) a m1 b wr (Nat.le_refl _) (by omega) (by omega) (HL.out _ HP.out.1) HR.out.2.1.symm (by omega) (by have := HR.out.1; have := HB2.out; omega) hc1.2 hc2.2 (HSm.out _ HP.out.1 _ (fun t ht => by rcases List.mem_append.1 ht with h | h <;> simp [h])) HP.out.2)
              have HNext : Hid (∀ R : List Triple, R.Perm (c1 ++ c2) → Sorted' R → ∀ w2, SR W g (D.flatten ++ (R ++ (C2.flatten ++ T1))) w2 → ((D ++ [R]).flatten.length = b ∧ Ch b2 (D ++ [R]) ∧ Ch bs C2 ∧ ((D ++ [R]).flatten ++ (C2.flatten ++ T1)).Perm l ∧ SR W g ((D ++ [R]).flatten ++ (C2.flatten ++ T1)) w2)) := Lib.hid (fun R hp hs w2 hw2 => by
                have hRl : R.length = b2 := by rw [hp.length_eq, List.length_append, hc1.1, hc2.1]; have := HB2.out; omega
                have he2 : (D ++ [R]).flatten ++ (C2.flatten ++ T1) = D.flatten ++ (R ++ (C2.flatten ++ T1)) := by simp
                refine ⟨?_, HR.out.2.2.1.snoc hRl hs, fun c hc => HR.out.2.2.2.1 c (by simp [hc]), ?_, by rw [he2]; exact hw2⟩
                · have := HR.out.1; have := HR.out.2.1; rw [flat_snoc]; omega
                · rw [he2]
                  refine perm_mid ?_ hp
                  rw [List.append_assoc]
                  exact HP.out.1)
              clear hlen HR hc1 hc2 hm1 he HP
              unfold cmpV at HC
              go_wp2_with fail
              refine HC.out.mono ?_
              rintro e w3 ⟨rfl, R, hp, hs, hS2⟩
              have HN := Lib.hid (HNext.out R hp hs w3 hS2)
              clear hp hs hS2 HNext
              go_wp2
              go_roundw
              case rel => exact ⟨b, b + b2, D ++ [R], C2, rfl, by go_num, by omega, by omega, Lib.hid ⟨rfl, HN.out⟩⟩
              case measure => simp [intOf]; omega
            · have hd3 : decide (b ≤ L) = false := decide_eq_false hle
              obtain ⟨m1, hm1⟩ : ∃ m1, m1 = a + bs := ⟨_, rfl⟩
              have wm : IntKind.i64.wrap ((a : Int) + (bs : Int)) = (m1 : Int) := by rw [IntKind.wrap_i64]; omega
              have hC2 : C' = [] ∨ ∃ c, C' = [c] := by
                have h1 := HR.out.1
                have h3 := HB2.out
                match C' with
                | [] => exact .inl rfl
                | [c] => exact .inr ⟨c, rfl⟩
                | c1 :: c2 :: C2 =>
                  simp [Nat.add_mul] at hlen
                  omega
              by_cases hml : m1 < L
              · have hd4 : decide (m1 < L) = true := decide_eq_true hml
                obtain ⟨c, rfl⟩ : ∃ c, C' = [c] := by
                  rcases hC2 with rfl | h
                  · have h2 := HT.out.1
                    simp at hlen
                    omega
                  · exact h
                have hc := HR.out.2.2.2.1 c (by simp)
                simp at hlen
                have he : D.flatten ++ ([c].flatten ++ T1) = D.flatten ++ (c ++ (T1 ++ [])) := by simp
                have HP : Hid ((D.flatten ++ (c ++ (T1 ++ []))).Perm l ∧ SR W g (D.flatten ++ (c ++ (T1 ++ []))) wr) := Lib.hid (by rw [← he]; exact HR.out.2.2.2.2)
                have HC := Lib.hid (sym_calls L cap (by omega) g W (c.length + T1.length) D.flatten c T1 [] a m1 L wr (Nat.le_refl _) (by omega) (by omega) (HL.out _ HP.out.1) HR.out.2.1.symm (by omega) (by omega) hc.2 HT.out.2 (HSm.out _ HP.out.1 _ (fun t ht => by rcases List.mem_append.1 ht with h | h <;> simp [h])) HP.out.2)
                have HNext : Hid (∀ R : List Triple, R.Perm (c ++ T1) → Sorted' R → ∀ w2, SR W g (D.flatten ++ (R ++ [])) w2 → (R.length < b2 ∧ Ch b2 D ∧ Sorted' R ∧ (D.flatten ++ R).Perm l ∧ SR W g (D.flatten ++ R) w2)) := Lib.hid (fun R hp hs w2 hw2 => by
                  refine ⟨by rw [hp.length_eq, List.length_append, hc.1]; have := HB2.out; have := HT.out.1; omega, HR.out.2.2.1, hs, ?_, by simpa using hw2⟩
                  have := HP.out.1
                  rw [List.append_nil] at this
                  exact (List.Perm.append_left _ hp).trans this)
                clear hlen HR hc hm1 he HP hC2
                unfold cmpV at HC
                go_wp2_with fail
                refine HC.out.mono ?_
                rintro e w3 ⟨rfl, R, hp, hs, hS2⟩
                have HN := Lib.hid (HNext.out R hp hs w3 hS2)
                clear hp hs hS2 HNext
                go_wp2
                refine ⟨⟨b2, D, R, by go_num, by omega, by omega, HN⟩, ?_⟩
                simp [intOf]; omega
              · have hd4 : decide (m1 < L) = false := decide_eq_false hml
                have HN : Hid (∃ T, T.length < b2 ∧ Ch b2 D ∧ Sorted' T ∧ (D.flatten ++ T).Perm l ∧ SR W g (D.flatten ++ T) wr) := Lib.hid (by
                  have h2 := HT.out.1
                  rcases hC2 with rfl | ⟨c, rfl⟩
                  · exact ⟨T1, by omega, HR.out.2.2.1, HT.out.2, by simpa using HR.out.2.2.2.2.1, by simpa using HR.out.2.2.2.2.2⟩
                  · have hc := HR.out.2.2.2.1 c (by simp)
                    simp at hlen
                    have h0 : T1 = [] := List.eq_nil_of_length_eq_zero (by omega)
                    have h1 := HR.out.2.2.2.2.1
                    have h3 := HR.out.2.2.2.2.2
                    rw [h0] at h1 h3
                    exact ⟨c, by omega, HR.out.2.2.1, hc.2, by simpa using h1, by simpa using h3⟩)
                clear hlen HR hm1 hC2
                obtain ⟨T, hT⟩ := HN.out
                have HN2 := Lib.hid hT
                clear hT HN
                go_wp2
                refine ⟨⟨b2, D, T, by go_num, by omega, by omega, HN2⟩, ?_⟩
                simp [intOf]; omega
        · have hd2 : decide (bs < L) = false := decide_eq_false hbl
          have HV : Hid (∃ R, R.Perm l ∧ Sorted' R ∧ SR W g R wr) := Lib.hid (by
            obtain ⟨h1, h2, h3, h4, h5⟩ := HR.out
            have hlen := HL.out _ h4
            rw [List.length_append, h2.flat] at hlen
            match C1, h2, h4, h5, hlen with
            | [], _, h4, h5, _ => exact ⟨T1, by simpa using h4, h3, by simpa using h5⟩
            | [c], h2, h4, h5, hlen =>
              simp at hlen
              have h0 : T1 = [] := List.eq_nil_of_length_eq_zero (by omega)
              rw [h0] at h4 h5
              exact ⟨c, by simpa using h4, (h2 c (by simp)).2, by simpa using h5⟩
            | c1 :: c2 :: C2, _, _, _, hlen =>
              simp [Nat.add_mul] at hlen
              omega)
          clear HR
          go_wp2
          go_end0
          exact ⟨rfl, HV.out⟩
theorem sortStable_calls (l : List Triple) (L cap : Nat) (hL : l.length = L) (hLs : L ≤ 70368744177664) (hsm : ∀ t ∈ l, SmallT t) (g : Nat) (W w : World) (hS : SR W g l w) :
    Calls Tryz.prog 40 #[.slice (some ⟨g, 0, none⟩) L cap, cmpV] w fun e w' => e = .returned (.tuple #[]) ∧ ∃ R, R.Perm l ∧ Sorted' R ∧ SR W g R w' := by
  have HC := Lib.hid (stable_calls l L cap hL hLs hsm g W w hS)
  clear hL hsm hS
  unfold cmpV at *
  go_enter Tryz.func40, Tryz.ntmps40
  go_wp2_with fail
  refine HC.out.mono ?_
  rintro e w2 ⟨rfl, hR⟩
  have HR := Lib.hid hR
  clear hR
  go_wp2
  go_end0
  exact ⟨rfl, HR.out⟩
end Go.Proofs.YtmcoloapiiakbaaGreatDoor.SortW
/-
  slices.Clone of triples, walked.
-/
set_option linter.unusedVariables false
set_option linter.unusedSimpArgs false
namespace Go.Proofs.YtmcoloapiiakbaaGreatDoor.SortW
open Go.RowKit Go.Lib Go.Proofs.YtmcoloapiiakbaaGreatDoor.B Go.Proofs.YtmcoloapiiakbaaGreatDoor.Rd Go.Proofs.YtmcoloapiiakbaaGreatDoor.Utf Go.Proofs.YtmcoloapiiakbaaGreatDoor.TermPure Go.Proofs.YtmcoloapiiakbaaGreatDoor.LinesPure Go.Proofs.YtmcoloapiiakbaaGreatDoor.Tx Go.Proofs.YtmcoloapiiakbaaGreatDoor.Env Go.Proofs.YtmcoloapiiakbaaGreatDoor.Tri Go.Proofs.YtmcoloapiiakbaaGreatDoor.SortP Go.Proofs.YtmcoloapiiakbaaGreatDoor.Print Go.Proofs.YtmcoloapiiakbaaGreatDoor.Cmp Go.Proofs.YtmcoloapiiakbaaGreatDoor.Long

def zeroV : Value := .agg #[.int .i64 0, .string ⟨#[]⟩, .string ⟨#[]⟩, .int .i64 0, .string ⟨#[]⟩, .string ⟨#[]⟩, .int .i64 0, .string ⟨#[]⟩, .string ⟨#[]⟩]
theorem info_tri : (Tryz.prog.info? 25).map (fun i => (i.zero, i.size, i.bytes)) = some (some zeroV, triK.sz, 120) := by kernel_rfl
theorem any_tri : ∀ (w : World) (ok ok' : Nat → Prop) (x : Triple) (cs : List Value), triK.M w ok x cs → triK.M w ok' x cs := fun _ _ _ _ _ h => h
def TT : Nat → Prop := fun _ => True
/-- A row of a call's own, as it is sorted. -/
theorem SR.of_own {w : World} {base : Nat} {ok : Nat → Prop} {v : Value} {l : List Triple} (h : triK.own 25 w base ok v l) (hp : 0 < l.length) :
    ∃ g cap, v = .slice (some ⟨g, 0, none⟩) l.length cap ∧ base ≤ g ∧ g < w.heap.size ∧ l.length ≤ cap ∧ SR w g l w := by
  obtain ⟨_, cells, ho, hr⟩ := h
  have ho' := ho
  rcases ho'.2 with ⟨_, h0⟩ | ⟨g, cap, cur, rfl, hg, hh, hnc, hcm, hcs, htake⟩
  · omega
  · have hlt : g < w.heap.size := (Array.getElem?_eq_some_iff.1 hh).1
    refine ⟨g, cap, rfl, hg, hlt, hnc, World.grownBy.refl _ _, fun i hi => ?_, fun j hj => ?_⟩
    · obtain ⟨hc, _⟩ := hr i l[i] (List.getElem?_eq_getElem hi)
      refine C9.of fun j u hu => ?_
      rw [← hc] at hu
      have := ho.cells rfl _ _ (Kd.take_drop_get hu)
      rw [add_plain] at this
      exact this
    · unfold World.frozen?
      dsimp only
      rw [hh]
      simp
/-- .. and back. -/
theorem SR.own {W w : World} {g cap : Nat} {l : List Triple} (h : SR W g l w) (hp : 0 < l.length) (hf : ∀ t ∈ l, FitsW3 t) (hl : l.length ≤ 140737488355328) (hc : l.length ≤ cap) (hcm : cap ≤ maxLen) (ok : Nat → Prop) (hok : ok g) :
    triK.sl.M w ok l [.slice (some ⟨g, 0, none⟩) l.length cap] := by
  refine ⟨some ⟨g, 0, none⟩, cap, rfl, hc, ⟨hl, hcm⟩, fun h => (by cases h), fun i x hx => ?_⟩
  obtain ⟨hi, rfl⟩ := List.getElem?_eq_some_iff.1 hx
  refine ⟨_, triL l[i], rfl, hok, ⟨rfl, hf _ (List.getElem_mem hi)⟩, fun j u hu => ?_⟩
  rw [add_plain]
  obtain ⟨c0, c1, c2, c3, c4, c5, c6, c7, c8⟩ := h.cells i hi
  have hj : j < 9 := (List.getElem?_eq_some_iff.1 hu).1
  match j, hj with
  | 0, _ => cases hu; exact c0
  | 1, _ => cases hu; exact c1
  | 2, _ => cases hu; exact c2
  | 3, _ => cases hu; exact c3
  | 4, _ => cases hu; exact c4
  | 5, _ => cases hu; exact c5
  | 6, _ => cases hu; exact c6
  | 7, _ => cases hu; exact c7
  | 8, _ => cases hu; exact c8
set_option maxHeartbeats 3200000 in
set_option maxRecDepth 100000 in
theorem clone_calls (l : List Triple) (A : Option Addr) (c : Nat) (w : World) (HL : triK.sl.M w (fun _ => True) l [.slice A l.length c]) (hb : l.length * 120 ≤ 140737488355328) :
    Calls Tryz.prog 39 #[.slice A l.length c] w fun e w' => (∃ v, e = .returned v ∧ triK.own 25 w' w.heap.size TT v l) ∧ Below w.heap.size w w' := by
  have HM := Lib.hid HL
  obtain ⟨A', c', he, h1, h2, h3, hr⟩ := HL
  obtain ⟨rfl, rfl⟩ : A = A' ∧ c = c' := by simpa using he
  cases A with
  | none =>
    have hc := h3 rfl
    have hl0 : l = [] := List.eq_nil_of_length_eq_zero (by omega)
    subst hl0 hc
    have HO : Hid (triK.own 25 w w.heap.size TT (.slice none 0 0) []) := Lib.hid (Kd.own_nil _ _ _ _ _)
    clear he h1 h2 h3 hr HM hb
    simp only [List.length_nil]
    have hq : ∀ w, Sem.run Tryz.prog (binOp BinOp.eql 31 (Value.slice none 0 0) (Value.slice none 0 0)) w = .ok (.bool true) w := fun w => run_eql_nil_slice w 31 25 none 0 0 0 0 Tryz.underlying31
    go_enter Tryz.func39, Tryz.ntmps39
    go_wp2
    go_ret
    exact ⟨⟨_, rfl, HO.out⟩, Below.refl _ _⟩
  | some ad =>
    have b0 : Below w.heap.size w (w.alloc (.cells #[] 25)) := bel_alloc (Below.refl _ _) _
    have HO0 : Hid (triK.own 25 (w.alloc (.cells #[] 25)) w.heap.size TT (.slice (some ⟨w.heap.size, 0, none⟩) 0 0) []) :=
      Lib.hid (Kd.own_block (cells := []) (xs := []) (Nat.le_refl _) (Kd.heap_new _ _) rfl (by simp) (fun i x h => by simp at h))
    have HR0 := Lib.hid (Kd.M_below HM.out b0)
    clear he h1 h2 h3 hr
    have hq : ∀ w, Sem.run Tryz.prog (binOp BinOp.eql 31 (Value.slice (some ad) l.length c) (Value.slice none 0 0)) w = .ok (.bool false) w := fun w => Lib.run_eql_slice_nil w 31 25 (some ad) l.length c 0 0 Tryz.underlying31
    go_enter Tryz.func39, Tryz.ntmps39
    go_wp2_with (at_builtin; refine Kd.own_app triK w.heap.size rfl (.tmp 5) (.tmp 6) 31 25 zeroV 120 rfl Tryz.underlying31 info_tri rfl (by decide) _ [] l (some ad) c TT rfl rfl HO0.out (.inr ⟨HR0.out, any_tri⟩) b0 (by simp) (by simp; omega) ?_; intro v1 w1 ho1 hb1 hg1 hv1; clear hg1 hv1; rw [List.nil_append] at ho1; have HO1 := Lib.hid ho1; have HB1 := Lib.hid hb1; clear ho1 hb1 b0)
    go_wp2
    go_ret
    exact ⟨⟨_, rfl, HO1.out⟩, HB1.out⟩
end Go.Proofs.YtmcoloapiiakbaaGreatDoor.SortW
/-
  slices.CompactFunc of triples, walked.
-/
set_option linter.unusedVariables false
set_option linter.unusedSimpArgs false
namespace Go.Proofs.YtmcoloapiiakbaaGreatDoor.SortW
open Go.RowKit Go.Lib Go.Proofs.YtmcoloapiiakbaaGreatDoor.B Go.Proofs.YtmcoloapiiakbaaGreatDoor.Rd Go.Proofs.YtmcoloapiiakbaaGreatDoor.Utf Go.Proofs.YtmcoloapiiakbaaGreatDoor.TermPure Go.Proofs.YtmcoloapiiakbaaGreatDoor.LinesPure Go.Proofs.YtmcoloapiiakbaaGreatDoor.Tx Go.Proofs.YtmcoloapiiakbaaGreatDoor.Env Go.Proofs.YtmcoloapiiakbaaGreatDoor.Tri Go.Proofs.YtmcoloapiiakbaaGreatDoor.SortP Go.Proofs.YtmcoloapiiakbaaGreatDoor.Print Go.Proofs.YtmcoloapiiakbaaGreatDoor.Cmp Go.Proofs.YtmcoloapiiakbaaGreatDoor.Long

theorem go_snoc : ∀ (l : List Triple) (x y : Triple), compactT.go x (l ++ [y]) = compactT.go x l ++ (if cmpT y ((x :: l).getLast (by simp)) = 0 then [] else [y])
  | [], x, y => by
    rw [List.nil_append, compactT.go, compactT.go, List.getLast_singleton]
    split <;> simp [compactT.go]
  | z :: l, x, y => by
    have ih := go_snoc l z y
    rw [List.cons_append, compactT.go, compactT.go, List.getLast_cons (by simp), ih]
    split
    · rfl
    · rfl
theorem compact_take (R : List Triple) (j : Nat) (h1 : 1 ≤ j) (hj : j < R.length) : compactT (R.take (j + 1)) = compactT (R.take j) ++ (if cmpT R[j] (R[j - 1]'(by omega)) = 0 then [] else [R[j]]) := by
  rw [List.take_succ_eq_append_getElem hj]
  obtain ⟨x, l, hxl⟩ : ∃ x l, R.take j = x :: l := by
    cases h : R.take j with
    | nil => rw [List.take_eq_nil_iff] at h; rcases h with h | h; · omega
             · rw [h] at hj; simp at hj
    | cons x l => exact ⟨x, l, rfl⟩
  have hlast : (x :: l).getLast (by simp) = R[j - 1]'(by omega) := by
    have hl : (R.take j).length = j := by rw [List.length_take]; omega
    have h2 : (R.take j).getLast (by rw [hxl]; simp) = R[j - 1]'(by omega) := by
      rw [List.getLast_eq_getElem, List.getElem_take]
      congr 1
      omega
    rw [← h2]
    congr 1
    exact hxl.symm
  rw [hxl, List.cons_append, compactT, compactT, go_snoc, hlast]
  rfl
theorem compact_one (R : List Triple) (h : 0 < R.length) : compactT (R.take 1) = R.take 1 := by
  cases R with
  | nil => simp at h
  | cons x l => simp [compactT, compactT.go]
theorem compact_same (R : List Triple) : ∀ j, 1 ≤ j → j ≤ R.length → (∀ i (h : i < R.length), 1 ≤ i → i < j → cmpT R[i] (R[i - 1]'(by omega)) ≠ 0) → compactT (R.take j) = R.take j
  | 0, h, _, _ => by omega
  | 1, _, h, _ => compact_one R (by omega)
  | j + 2, _, h, hne => by
    rw [compact_take R (j + 1) (by omega) (by omega), compact_same R (j + 1) (by omega) (by omega) (fun i hi h1 h2 => hne i hi h1 (by omega)), if_neg (hne (j + 1) (by omega) (by omega) (by omega))]
    exact (List.take_succ_eq_append_getElem (by omega)).symm
theorem compact_len (R : List Triple) : ∀ j, j ≤ R.length → (compactT (R.take j)).length ≤ j
  | 0, _ => by simp [compactT]
  | 1, h => by rw [compact_one R (by omega), List.length_take]; omega
  | j + 2, h => by
    have := compact_len R (j + 1) (by omega)
    rw [compact_take R (j + 1) (by omega) (by omega), List.length_append]
    split <;> simp <;> omega
def eqV : Value := .func (.func 42) #[] #[]
set_option maxHeartbeats 3200000 in
set_option maxRecDepth 100000 in
theorem eq_calls (a b : Triple) (ha : SmallT a) (hb : SmallT b) (w : World) : Calls Tryz.prog 42 #[Ref5.tripleV a, Ref5.tripleV b] w fun e w' => e = .returned (.bool (decide (cmpT a b = 0))) ∧ Below w.heap.size w w' := by
  have HX := Lib.hid (box18 w a b ⟨_, Below.refl _ _⟩)
  have HC := Lib.hid (fun w => cmp_calls a b ha hb w)
  have HBe := Lib.hid (bel_alloc (bel_alloc (Below.refl w.heap.size w) (.cells #[.int .i64 a.s.kind, .string (mkS a.s.text), .string (mkS a.s.extra), .int .i64 a.p.kind, .string (mkS a.p.text), .string (mkS a.p.extra), .int .i64 a.o.kind, .string (mkS a.o.text), .string (mkS a.o.extra)] 25)) (.cells #[.int .i64 b.s.kind, .string (mkS b.s.text), .string (mkS b.s.extra), .int .i64 b.p.kind, .string (mkS b.p.text), .string (mkS b.p.extra), .int .i64 b.o.kind, .string (mkS b.o.text), .string (mkS b.o.extra)] 25))
  generalize cmpT a b = v at *
  obtain ⟨⟨sk, sx, se⟩, ⟨pk, px, pe⟩, ⟨ok, ox, oe⟩⟩ := a
  obtain ⟨⟨sk', sx', se'⟩, ⟨pk', px', pe'⟩, ⟨ok', ox', oe'⟩⟩ := b
  unfold Ref5.tripleV at *
  dsimp only at *
  clear ha hb
  have HV : Hid ((v == 0) = decide (v = 0)) := Lib.hid (by by_cases h : v = 0 <;> simp [h])
  by_cases hv : v = 0
  · subst hv
    go_enter Tryz.func42, Tryz.ntmps42
    go_wp2_with fail
    refine (HC.out _).mono ?_
    rintro e w2 ⟨rfl, hb⟩
    have HB := Lib.hid (bel_step HBe.out hb)
    clear hb
    go_wp2
    go_ret
    exact ⟨rfl, HB.out⟩
  · have hn : (v == 0) = false := by rw [beq_eq_false_iff_ne]; exact hv
    have HD : Hid (decide (v = 0) = false) := Lib.hid (decide_eq_false hv)
    clear hv
    go_enter Tryz.func42, Tryz.ntmps42
    go_wp2_with fail
    refine (HC.out _).mono ?_
    rintro e w2 ⟨rfl, hb⟩
    have HB := Lib.hid (bel_step HBe.out hb)
    clear hb
    go_wp2
    go_ret
    exact ⟨by rw [HD.out]; rfl, HB.out⟩
end Go.Proofs.YtmcoloapiiakbaaGreatDoor.SortW
/-
  slices.CompactFunc of triples, walked: the walk.
-/
set_option linter.unusedVariables false
set_option linter.unusedSimpArgs false
namespace Go.Proofs.YtmcoloapiiakbaaGreatDoor.SortW
open Go.RowKit Go.Lib Go.Proofs.YtmcoloapiiakbaaGreatDoor.B Go.Proofs.YtmcoloapiiakbaaGreatDoor.Rd Go.Proofs.YtmcoloapiiakbaaGreatDoor.Utf Go.Proofs.YtmcoloapiiakbaaGreatDoor.TermPure Go.Proofs.YtmcoloapiiakbaaGreatDoor.LinesPure Go.Proofs.YtmcoloapiiakbaaGreatDoor.Tx Go.Proofs.YtmcoloapiiakbaaGreatDoor.Env Go.Proofs.YtmcoloapiiakbaaGreatDoor.Tri Go.Proofs.YtmcoloapiiakbaaGreatDoor.SortP Go.Proofs.YtmcoloapiiakbaaGreatDoor.Print Go.Proofs.YtmcoloapiiakbaaGreatDoor.Cmp Go.Proofs.YtmcoloapiiakbaaGreatDoor.Long

theorem setCells_grown (g : Nat) : ∀ (vs : List Value) (o : Nat) (w : World), w.grownBy (w.setCells g o vs) (some g)
  | [], _, w => World.grownBy.refl _ _
  | v :: vs, o, w => by
    rw [World.setCells]
    exact (grown_setCell w ⟨g, o, none⟩ v).trans (setCells_grown g vs (o + 1) _)
theorem SR.set {W w : World} {g : Nat} {l : List Triple} (h : SR W g l w) (i : Nat) (hi : i < l.length) (x : Triple) : SR W g (l.set i x) (put9 w g (i * 9) x) := by
  refine ⟨h.grown.trans (put9_grown _ _ _ _), fun k hk => ?_, fun q hq => ?_⟩
  · have hk' : k < l.length := by rw [List.length_set] at hk; exact hk
    by_cases e : k = i
    · subst e
      rw [List.getElem_set_self]
      exact put9_same (h.cells k hk') _
    · rw [List.getElem_set_ne (fun h => e h.symm)]
      have hc := h.cells k hk'
      have far : ∀ d, d < 9 → (k * 9 + d < i * 9 ∨ i * 9 + 9 ≤ k * 9 + d) := fun d hd => by omega
      exact ⟨(put9_other _ _ _ _ _ (far 0 (by omega))).trans hc.c0, (put9_other _ _ _ _ _ (far 1 (by omega))).trans hc.c1, (put9_other _ _ _ _ _ (far 2 (by omega))).trans hc.c2,
        (put9_other _ _ _ _ _ (far 3 (by omega))).trans hc.c3, (put9_other _ _ _ _ _ (far 4 (by omega))).trans hc.c4, (put9_other _ _ _ _ _ (far 5 (by omega))).trans hc.c5,
        (put9_other _ _ _ _ _ (far 6 (by omega))).trans hc.c6, (put9_other _ _ _ _ _ (far 7 (by omega))).trans hc.c7, (put9_other _ _ _ _ _ (far 8 (by omega))).trans hc.c8⟩
  · rw [put9_frozen]
    rw [List.length_set] at hq
    exact h.free q hq
theorem zeroCells_len (n : Nat) : (Builtin.zeroCells zeroV.cells n).toList.length = n * 9 := by
  simp [Builtin.zeroCells, zeroV, Value.cells]
theorem zeroCells_one (n : Nat) : ∀ v ∈ (Builtin.zeroCells zeroV.cells n).toList, v.oneCell' = true := by
  intro v hv
  have key : ∀ k : Nat, k < 9 → ((zeroV.cells)[k]!).oneCell' = true := by decide
  simp [Builtin.zeroCells] at hv
  obtain ⟨i, hi, rfl⟩ := hv
  exact key _ (Nat.mod_lt _ (by decide))
theorem run_clear (w : World) (ty : TypeId) (b o n c : Nat) (hn : 0 < n) (hc : ∀ j, j < n * 9 → (w.cell? ⟨b, o + j, none⟩).isSome = true) (hf : ∀ j, j < n * 9 → w.frozen? ⟨b, o + j, none⟩ = false) :
    (Builtin.clear_ #[31] ty #[.slice (some ⟨b, o, none⟩) n c]).run Tryz.prog w = .ok (.tuple #[]) (w.setCells b o (Builtin.zeroCells zeroV.cells n).toList) := by
  have hv : ∀ w, (zeroValue 25).run Tryz.prog w = .ok zeroV w := Tryz.zeroValue25
  have hst := run_storeCells_cells (P := Tryz.prog) b o (Builtin.zeroCells zeroV.cells n).toList 0 w (by rw [zeroCells_len]; simpa using hc) (by rw [zeroCells_len]; simpa using hf) (zeroCells_one n)
  simp only [Nat.add_zero] at hst
  obtain ⟨m, rfl⟩ : ∃ m, n = m + 1 := ⟨n - 1, by omega⟩
  simp only [Builtin.clear_]
  simp [run_underlying Tryz.underlying31, hv, hst]
end Go.Proofs.YtmcoloapiiakbaaGreatDoor.SortW
