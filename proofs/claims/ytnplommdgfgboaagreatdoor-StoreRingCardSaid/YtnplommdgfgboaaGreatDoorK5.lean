/-
  Texts of the claim, one behind the other: Ins, SymPure, SymL, SymR, SymG1, SymG2.
-/
import Derived.Test.YtnplommdgfgboaaGreatDoorK4
set_option linter.unusedVariables false
set_option linter.unusedSimpArgs false
namespace Go.Proofs.YtnplommdgfgboaaGreatDoor.SortW
open Go.RowKit Go.Lib Go.Proofs.YtnplommdgfgboaaGreatDoor.B Go.Proofs.YtnplommdgfgboaaGreatDoor.Rd Go.Proofs.YtnplommdgfgboaaGreatDoor.Utf Go.Proofs.YtnplommdgfgboaaGreatDoor.TermPure Go.Proofs.YtnplommdgfgboaaGreatDoor.LinesPure Go.Proofs.YtnplommdgfgboaaGreatDoor.Tx Go.Proofs.YtnplommdgfgboaaGreatDoor.Env Go.Proofs.YtnplommdgfgboaaGreatDoor.Tri Go.Proofs.YtnplommdgfgboaaGreatDoor.SortP Go.Proofs.YtnplommdgfgboaaGreatDoor.Print Go.Proofs.YtnplommdgfgboaaGreatDoor.Cmp Go.Proofs.YtnplommdgfgboaaGreatDoor.Long
abbrev Sorted' (l : List Triple) : Prop := l.Pairwise fun a b => ¬ ltT b a
theorem _root_.Go.Proofs.YtnplommdgfgboaaGreatDoor.Long.C9.bel {w : World} {g o : Nat} {t : Triple} (h : Long.C9 w g o t) (p : QT.Bel w) : Long.C9 p.w g o t :=
  ⟨p.cell h.c0, p.cell h.c1, p.cell h.c2, p.cell h.c3, p.cell h.c4, p.cell h.c5, p.cell h.c6, p.cell h.c7, p.cell h.c8⟩
theorem swap_adj (A B : List Triple) (x y : Triple) : swapL (A ++ (y :: x :: B)) (A.length + 1) A.length = A ++ (x :: y :: B) := by
  apply List.ext_getElem?
  intro k
  rw [swapL_get _ _ _ _ (by simp) (by simp)]
  by_cases e1 : k = A.length
  · subst e1
    rw [if_pos rfl, List.getElem?_append_right (by omega), List.getElem?_append_right (by omega)]
    simp
  · rw [if_neg e1]
    by_cases e2 : k = A.length + 1
    · subst e2
      rw [if_pos rfl, List.getElem?_append_right (by omega), List.getElem?_append_right (by omega)]
      simp
    · rw [if_neg e2]
      by_cases e3 : k < A.length
      · rw [List.getElem?_append_left e3, List.getElem?_append_left e3]
      · rw [List.getElem?_append_right (by omega), List.getElem?_append_right (by omega)]
        obtain ⟨d, hd⟩ : ∃ d, k - A.length = d + 2 := ⟨k - A.length - 2, by omega⟩
        rw [hd]
        simp
theorem ins_done {S1 S2 : List Triple} {x : Triple} (h : Sorted' (S1 ++ S2)) (h2 : ∀ y ∈ S2, ltT x y) (h1 : S1 = [] ∨ ∃ S0 y, S1 = S0 ++ [y] ∧ ¬ ltT x y) : Sorted' (S1 ++ x :: S2) := by
  obtain ⟨p1, p2, p3⟩ := List.pairwise_append.1 h
  refine List.pairwise_append.2 ⟨p1, List.pairwise_cons.2 ⟨fun y hy => ltT_asymm (h2 y hy), p2⟩, fun u hu v hv => ?_⟩
  rcases List.mem_cons.1 hv with rfl | hv
  · rcases h1 with rfl | ⟨S0, y, rfl, hy⟩
    · cases hu
    · rcases List.mem_append.1 hu with hu' | hu'
      · have := (List.pairwise_append.1 p1).2.2 u hu' y (by simp)
        exact SortP.le_trans this hy
      · simp at hu'
        subst hu'
        exact hy
  · exact p3 u hu v hv
theorem sorted_take1 (A : List Triple) : Sorted' (A.take 1) := by
  cases A with
  | nil => simp
  | cons a A => simp
def cmpV : Value := .func (.func 119) #[] #[]
theorem get_at (P S : List Triple) (x : Triple) (Q : List Triple) (j : Nat) (hj : j = P.length + S.length) : ∃ h : j < (P ++ (S ++ (x :: Q))).length, (P ++ (S ++ (x :: Q)))[j] = x := by
  subst hj
  refine ⟨by simp, ?_⟩
  apply get_of
  rw [← List.append_assoc, List.getElem?_append_right (by simp)]
  simp
set_option maxHeartbeats 12800000 in
set_option maxRecDepth 100000 in
theorem insertion_calls (P A Q : List Triple) (L : Nat) (hL : (P ++ (A ++ Q)).length = L) (hLs : L ≤ 140737488355328) (a b cap : Nat) (ha : a = P.length) (hb : b = a + A.length) (hsm : ∀ t ∈ A, SmallT t) (g : Nat) (W w : World)
    (hS : SR W g (P ++ (A ++ Q)) w) :
    Calls Tryz.prog 194 #[.slice (some ⟨g, 0, none⟩) L cap, .int .i64 a, .int .i64 b, cmpV] w fun e w' => e = .returned (.tuple #[]) ∧ ∃ R, R.Perm A ∧ Sorted' R ∧ SR W g (P ++ (R ++ Q)) w' := by
  have hlen := hL
  simp only [List.length_append] at hlen
  have hbL : b ≤ L := by omega
  have HA := Lib.hid (show a = P.length ∧ b = a + A.length ∧ P.length + (A.length + Q.length) = L from ⟨ha, hb, hlen⟩)
  have HSm := Lib.hid hsm
  have h00 : Hid ((A.take 1).Perm (A.take (a + 1 - a)) ∧ Sorted' (A.take 1) ∧ SR W g (P ++ (A.take 1 ++ (A.drop (a + 1 - a) ++ Q))) w) := Lib.hid (by
    rw [show a + 1 - a = 1 by omega]
    refine ⟨List.Perm.refl _, sorted_take1 A, ?_⟩
    rw [← List.append_assoc (A.take 1), List.take_append_drop]
    exact hS)
  have hab : a ≤ b := by omega
  clear hS hL hlen ha hb hsm
  unfold cmpV
  go_enter Tryz.func194, Tryz.ntmps194
  go_wp2
  go_loopw [8] (fun vi wr => ∃ (i : Nat) (S : List Triple), vi = .int .i64 i ∧ a < i ∧ i ≤ b + 1 ∧ Hid (S.Perm (A.take (i - a)) ∧ Sorted' S ∧ SR W g (P ++ (S ++ (A.drop (i - a) ++ Q))) wr)) (fun vi _ => b + 1 - (intOf vi).toNat)
  case atStart => exact ⟨a + 1, A.take 1, by go_num, by omega, by omega, h00⟩
  case round =>
    obtain ⟨i, S, rfl, hai, hib, HR⟩ := hrel
    clear h00
    by_cases hlt : i < b
    · have hd : decide (i < b) = true := decide_eq_true hlt
      have ib : (i : Int) < (b : Int) := by omega
      have hiA : i - a < A.length := by have := HA.out.2.1; omega
      obtain ⟨x, hx⟩ : ∃ x, x = A[i - a] := ⟨_, rfl⟩
      have HX : Hid (SmallT x ∧ A.drop (i - a) = x :: A.drop (i - a + 1) ∧ A.take (i - a + 1) = A.take (i - a) ++ [x] ∧ S.length = i - a ∧ (∀ t ∈ S, SmallT t)) := Lib.hid (by
        refine ⟨by rw [hx]; exact HSm.out _ (List.getElem_mem hiA), by rw [hx]; exact List.drop_eq_getElem_cons hiA, by rw [hx, List.take_succ_eq_append_getElem hiA], ?_, fun t ht => HSm.out t (List.mem_of_mem_take (HR.out.1.mem_iff.1 ht))⟩
        rw [HR.out.1.length_eq, List.length_take]
        omega)
      have HI0 : Hid (S ++ [] = S ∧ (∀ y ∈ ([] : List Triple), ltT x y) ∧ SR W g (P ++ (S ++ (x :: ([] ++ (A.drop (i - a + 1) ++ Q))))) wr) := Lib.hid (by
        refine ⟨List.append_nil _, fun y hy => (by cases hy), ?_⟩
        have := HR.out.2.2
        rw [HX.out.2.1] at this
        exact this)
      clear hx hiA
      go_wp2
      go_loopw [9] (fun vj wx => ∃ (j : Nat) (S1 S2 : List Triple), vj = .int .i64 j ∧ j ≤ i ∧ a ≤ j ∧ Hid (j = a + S1.length ∧ S1 ++ S2 = S ∧ (∀ y ∈ S2, ltT x y) ∧ SR W g (P ++ (S1 ++ (x :: (S2 ++ (A.drop (i - a + 1) ++ Q))))) wx)) (fun vj _ => (intOf vj).toNat)
      case atStart => exact ⟨i, S, [], rfl, by omega, by omega, Lib.hid ⟨by rw [HX.out.2.2.2.1]; omega, HI0.out⟩⟩
      case round =>
        obtain ⟨j, S1, S2, rfl, hji, haj, HJ⟩ := hrel
        clear HI0
        have HDone : Hid ((S1 = [] ∨ ∃ S0 y, S1 = S0 ++ [y] ∧ ¬ ltT x y) → ∃ S', S'.Perm (A.take (i + 1 - a)) ∧ Sorted' S' ∧ S' = S1 ++ x :: S2) := Lib.hid (fun h => by
          refine ⟨_, ?_, ins_done (by rw [HJ.out.2.1]; exact HR.out.2.1) HJ.out.2.2.1 h, rfl⟩
          rw [show i + 1 - a = i - a + 1 by omega, HX.out.2.2.1]
          refine List.Perm.trans List.perm_middle ?_
          rw [HJ.out.2.1]
          exact (List.Perm.cons x HR.out.1).trans (List.perm_append_comm (l₁ := [x])))
        have HRow : Hid (∀ S', S' = S1 ++ x :: S2 → P ++ (S1 ++ (x :: (S2 ++ (A.drop (i - a + 1) ++ Q)))) = P ++ (S' ++ (A.drop (i + 1 - a) ++ Q))) := Lib.hid (fun S' h => by
          rw [h, show i + 1 - a = i - a + 1 by omega]
          simp)
        by_cases hS1 : S1 = []
        · have hja : j = a := by have := HJ.out.1; rw [hS1] at this; simpa using this
          have hd2 : decide (a < j) = false := decide_eq_false (by omega)
          obtain ⟨S', h1, h2, h3⟩ := HDone.out (.inl hS1)
          have HE : Hid (S'.Perm (A.take (i + 1 - a)) ∧ Sorted' S' ∧ ∀ nq, SR W g (P ++ (S' ++ (A.drop (i + 1 - a) ++ Q))) (wr.drewN nq)) := Lib.hid ⟨h1, h2, fun nq => by rw [← HRow.out S' h3]; exact HJ.out.2.2.2.drewN nq⟩
          clear h1 h2 h3 hS1 hja HDone HRow
          go_upto_region 4 with fail
          go_quiet (fail)
          go_wp2
          refine ⟨⟨i + 1, S', by go_num, by omega, by omega, Lib.hid ⟨HE.out.1, HE.out.2.1, HE.out.2.2 _⟩⟩, ?_⟩
          simp [intOf]; omega
        · obtain ⟨S0, y, hSy⟩ : ∃ S0 y, S1 = S0 ++ [y] := ⟨S1.dropLast, S1.getLast hS1, (List.dropLast_concat_getLast hS1).symm⟩
          subst hSy
          obtain ⟨jp, hjp⟩ : ∃ jp, jp = a + S0.length := ⟨_, rfl⟩
          have hj1 : j = jp + 1 := by have := HJ.out.1; simp at this; omega
          have hd2 : decide (a < j) = true := decide_eq_true (by omega)
          have hwj : IntKind.i64.wrap ((j : Int) - 1) = (jp : Int) := by rw [IntKind.wrap_i64]; omega
          have jL : (j : Int) < (L : Int) := by omega
          have jpL : (jp : Int) < (L : Int) := by omega
          have HEq : Hid (P ++ ((S0 ++ [y]) ++ (x :: (S2 ++ (A.drop (i - a + 1) ++ Q)))) = P ++ (S0 ++ (y :: x :: (S2 ++ (A.drop (i - a + 1) ++ Q))))) := Lib.hid (by simp)
          have HS9 : Hid (SR W g (P ++ (S0 ++ (y :: x :: (S2 ++ (A.drop (i - a + 1) ++ Q))))) wr) := Lib.hid (by rw [← HEq.out]; exact HJ.out.2.2.2)
          obtain ⟨hjl, hjx⟩ := get_at P (S0 ++ [y]) x (S2 ++ (A.drop (i - a + 1) ++ Q)) j (by rw [HJ.out.1, HA.out.1])
          obtain ⟨hpl, hpx⟩ := get_at P S0 y (x :: (S2 ++ (A.drop (i - a + 1) ++ Q))) jp (by rw [hjp, HA.out.1])
          have hcj := HJ.out.2.2.2.cells j hjl
          rw [hjx] at hcj
          have hcp := HS9.out.cells jp hpl
          rw [hpx] at hcp
          have hjl2 : j < (P ++ (S0 ++ (y :: x :: (S2 ++ (A.drop (i - a + 1) ++ Q))))).length := by rw [← HEq.out]; exact hjl
          have hjx2 : (P ++ (S0 ++ (y :: x :: (S2 ++ (A.drop (i - a + 1) ++ Q)))))[j] = x := by
            have key : ∀ (l' : List Triple) (h' : P ++ ((S0 ++ [y]) ++ (x :: (S2 ++ (A.drop (i - a + 1) ++ Q)))) = l') (hb : j < l'.length), l'[j] = x := by
              rintro l' rfl hb
              exact hjx
            exact key _ HEq.out hjl2
          have HSwF : Hid (∀ w2, SR W g (P ++ (S0 ++ (y :: x :: (S2 ++ (A.drop (i - a + 1) ++ Q))))) w2 → SR W g (P ++ (S0 ++ (x :: ((y :: S2) ++ (A.drop (i - a + 1) ++ Q))))) (put9 (put9 w2 g (j * 9) y) g (jp * 9) x).drew) := Lib.hid (fun w2 hS2 => by
            have hSw := hS2.swap j jp hjl2 hpl
            rw [hjx2, hpx, show j = (P ++ S0).length + 1 by rw [hj1, hjp, HA.out.1, List.length_append], show jp = (P ++ S0).length by rw [hjp, HA.out.1, List.length_append]] at hSw
            rw [← List.append_assoc P S0, swap_adj, List.append_assoc, show (P ++ S0).length + 1 = j by rw [hj1, hjp, HA.out.1, List.length_append], show (P ++ S0).length = jp by rw [hjp, HA.out.1, List.length_append]] at hSw
            exact hSw.drew)
          have HFree : Hid (∀ w2, SR W g (P ++ (S0 ++ (y :: x :: (S2 ++ (A.drop (i - a + 1) ++ Q))))) w2 → (∀ d, d < 9 → w2.frozen? ⟨g, j * 9 + d, none⟩ = false ∧ w2.frozen? ⟨g, jp * 9 + d, none⟩ = false)) := Lib.hid (fun w2 hS2 d hd => ⟨hS2.free _ (by omega), hS2.free _ (by omega)⟩)
          have HC := Lib.hid (fun w => cmp_calls x y HX.out.1 (HX.out.2.2.2.2 y (by rw [← HJ.out.2.1]; simp)) w)
          have hgl : g < wr.heap.size := hcj.lt
          have HBk : Hid (∀ w2, Below wr.heap.size wr w2 → SR W g (P ++ ((S0 ++ [y]) ++ (x :: (S2 ++ (A.drop (i - a + 1) ++ Q))))) w2) := Lib.hid (fun w2 hb => HJ.out.2.2.2.below hgl hb)
          have HLt : Hid (cmpT x y < 0 ↔ ltT x y) := Lib.hid Iff.rfl
          obtain ⟨v, hv⟩ : ∃ v, v = cmpT x y := ⟨_, rfl⟩
          rw [← hv] at HC HLt
          have HNext : Hid (ltT x y → jp = a + S0.length ∧ S0 ++ (y :: S2) = S ∧ (∀ z ∈ (y :: S2), ltT x z)) := Lib.hid (fun hxy => ⟨hjp, by rw [← HJ.out.2.1]; simp, fun z hz => by
            rcases List.mem_cons.1 hz with rfl | hz
            · exact hxy
            · exact HJ.out.2.2.1 z hz⟩)
          have hjp9 : jp * 9 + 9 ≤ j * 9 := by omega
          have hapj : a ≤ jp := by omega
          have hjpj : jp < j := by omega
          have HIdx : Hid (SR W g (P ++ (S0 ++ (y :: x :: (S2 ++ (A.drop (i - a + 1) ++ Q))))) wr) := HS9
          clear hv hjl hpl hjx hpx hjl2 hjx2 hj1 hjp hS1 HEq
          by_cases hvn : v < 0
          · -- less: they change places
            have hvd : decide (v < 0) = true := decide_eq_true hvn
            have hxy : Hid (ltT x y) := Lib.hid (HLt.out.1 hvn)
            obtain ⟨⟨sk, sx, se⟩, ⟨pk, px, pe⟩, ⟨ok, ox, oe⟩⟩ := x
            obtain ⟨⟨sk', sx', se'⟩, ⟨pk', px', pe'⟩, ⟨ok', ox', oe'⟩⟩ := y
            have x0 := fun p => (hcj.bel p).c0
            have x1 := fun p => (hcj.bel p).c1
            have x2 := fun p => (hcj.bel p).c2
            have x3 := fun p => (hcj.bel p).c3
            have x4 := fun p => (hcj.bel p).c4
            have x5 := fun p => (hcj.bel p).c5
            have x6 := fun p => (hcj.bel p).c6
            have x7 := fun p => (hcj.bel p).c7
            have x8 := fun p => (hcj.bel p).c8
            have y0 := fun p => (hcp.bel p).c0
            have y1 := fun p => (hcp.bel p).c1
            have y2 := fun p => (hcp.bel p).c2
            have y3 := fun p => (hcp.bel p).c3
            have y4 := fun p => (hcp.bel p).c4
            have y5 := fun p => (hcp.bel p).c5
            have y6 := fun p => (hcp.bel p).c6
            have y7 := fun p => (hcp.bel p).c7
            have y8 := fun p => (hcp.bel p).c8
            dsimp only at x0 x1 x2 x3 x4 x5 x6 x7 x8 y0 y1 y2 y3 y4 y5 y6 y7 y8
            unfold Ref5.tripleV at HC
            dsimp only at HC
            go_upto_region 4 with fail
            refine QT.region_all (by kernel_rfl) (by kernel_rfl) ?_
            iterate 14 (go_big_quiet_step (fail))
            go_big_quiet_step (exact QT.Bel.call _ (HC.out _))
            iterate 2 (go_big_quiet_step (fail))
            refine wpQuiet_nil ?_
            intro w2 hw'
            obtain ⟨⟨_, hb⟩, rfl⟩ := hw'
            have HS2 := Lib.hid (HIdx.out.below hgl hb)
            have HSW := Lib.hid (HSwF.out w2 HS2.out)
            unfold put9 at HSW
            dsimp only at HSW
            have f0 := (HFree.out w2 HS2.out 0 (by omega)).1
            have e0 := (HFree.out w2 HS2.out 0 (by omega)).2
            have f1 := (HFree.out w2 HS2.out 1 (by omega)).1
            have e1 := (HFree.out w2 HS2.out 1 (by omega)).2
            have f2 := (HFree.out w2 HS2.out 2 (by omega)).1
            have e2 := (HFree.out w2 HS2.out 2 (by omega)).2
            have f3 := (HFree.out w2 HS2.out 3 (by omega)).1
            have e3 := (HFree.out w2 HS2.out 3 (by omega)).2
            have f4 := (HFree.out w2 HS2.out 4 (by omega)).1
            have e4 := (HFree.out w2 HS2.out 4 (by omega)).2
            have f5 := (HFree.out w2 HS2.out 5 (by omega)).1
            have e5 := (HFree.out w2 HS2.out 5 (by omega)).2
            have f6 := (HFree.out w2 HS2.out 6 (by omega)).1
            have e6 := (HFree.out w2 HS2.out 6 (by omega)).2
            have f7 := (HFree.out w2 HS2.out 7 (by omega)).1
            have e7 := (HFree.out w2 HS2.out 7 (by omega)).2
            have f8 := (HFree.out w2 HS2.out 8 (by omega)).1
            have e8 := (HFree.out w2 HS2.out 8 (by omega)).2
            have a0 := (hcj.below hb).c0
            have b0 := (hcp.below hb).c0
            have a1 := (hcj.below hb).c1
            have b1 := (hcp.below hb).c1
            have a2 := (hcj.below hb).c2
            have b2 := (hcp.below hb).c2
            have a3 := (hcj.below hb).c3
            have b3 := (hcp.below hb).c3
            have a4 := (hcj.below hb).c4
            have b4 := (hcp.below hb).c4
            have a5 := (hcj.below hb).c5
            have b5 := (hcp.below hb).c5
            have a6 := (hcj.below hb).c6
            have b6 := (hcp.below hb).c6
            have a7 := (hcj.below hb).c7
            have b7 := (hcp.below hb).c7
            have a8 := (hcj.below hb).c8
            have b8 := (hcp.below hb).c8
            simp only [Nat.add_zero] at f0 e0
            clear hb x0 x1 x2 x3 x4 x5 x6 x7 x8 y0 y1 y2 y3 y4 y5 y6 y7 y8 hcj hcp
            dsimp only at a0 a1 a2 a3 a4 a5 a6 a7 a8 b0 b1 b2 b3 b4 b5 b6 b7 b8
            have D1 : ∀ e d, d < 9 → (j * 9 + e = jp * 9 + d) = False := fun e d hd => eq_false (by omega)
            have D2 : ∀ d, d < 9 → (j * 9 = jp * 9 + d) = False := fun d hd => eq_false (by omega)
            have D3 : ∀ e, (j * 9 + e = jp * 9) = False := fun e => eq_false (by omega)
            have D4 : (j * 9 = jp * 9) = False := eq_false (by omega)
            have D5 : ∀ e d, d < 9 → (jp * 9 + d = j * 9 + e) = False := fun e d hd => eq_false (by omega)
            have D6 : ∀ d, d < 9 → (jp * 9 + d = j * 9) = False := fun d hd => eq_false (by omega)
            have D7 : ∀ e, (jp * 9 = j * 9 + e) = False := fun e => eq_false (by omega)
            have D8 : (jp * 9 = j * 9) = False := eq_false (by omega)
            clear hjp9
            go_upto_region 6 with fail
            go_big_region
            all_goals go_wp2
            go_roundw
            case rel => exact ⟨jp, S0, _ :: S2, by go_num, by omega, by omega, Lib.hid ⟨(HNext.out hxy.out).1, (HNext.out hxy.out).2.1, (HNext.out hxy.out).2.2, HSW.out⟩⟩
            case measure => simp [intOf]; omega
          · have hvd : decide (v < 0) = false := decide_eq_false hvn
            obtain ⟨S', h1, h2, h3⟩ := HDone.out (.inr ⟨S0, y, rfl, fun h => hvn (HLt.out.2 h)⟩)
            have HE : Hid (S'.Perm (A.take (i + 1 - a)) ∧ Sorted' S' ∧ ∀ w2, Below wr.heap.size wr w2 → SR W g (P ++ (S' ++ (A.drop (i + 1 - a) ++ Q))) w2) := Lib.hid ⟨h1, h2, fun w2 hb => by rw [← HRow.out S' h3]; exact HBk.out w2 hb⟩
            clear h1 h2 h3 HDone HRow hvn
            obtain ⟨⟨sk, sx, se⟩, ⟨pk, px, pe⟩, ⟨ok, ox, oe⟩⟩ := x
            obtain ⟨⟨sk', sx', se'⟩, ⟨pk', px', pe'⟩, ⟨ok', ox', oe'⟩⟩ := y
            have x0 := fun p => (hcj.bel p).c0
            have x1 := fun p => (hcj.bel p).c1
            have x2 := fun p => (hcj.bel p).c2
            have x3 := fun p => (hcj.bel p).c3
            have x4 := fun p => (hcj.bel p).c4
            have x5 := fun p => (hcj.bel p).c5
            have x6 := fun p => (hcj.bel p).c6
            have x7 := fun p => (hcj.bel p).c7
            have x8 := fun p => (hcj.bel p).c8
            have y0 := fun p => (hcp.bel p).c0
            have y1 := fun p => (hcp.bel p).c1
            have y2 := fun p => (hcp.bel p).c2
            have y3 := fun p => (hcp.bel p).c3
            have y4 := fun p => (hcp.bel p).c4
            have y5 := fun p => (hcp.bel p).c5
            have y6 := fun p => (hcp.bel p).c6
            have y7 := fun p => (hcp.bel p).c7
            have y8 := fun p => (hcp.bel p).c8
            dsimp only at x0 x1 x2 x3 x4 x5 x6 x7 x8 y0 y1 y2 y3 y4 y5 y6 y7 y8
            unfold Ref5.tripleV at HC
            dsimp only at HC
            go_upto_region 4 with fail
            refine QT.region_all (by kernel_rfl) (by kernel_rfl) ?_
            iterate 14 (go_big_quiet_step (fail))
            go_big_quiet_step (exact QT.Bel.call _ (HC.out _))
            iterate 2 (go_big_quiet_step (fail))
            refine wpQuiet_nil ?_
            intro w2 hw'
            obtain ⟨⟨_, hb⟩, rfl⟩ := hw'
            have HE2 := Lib.hid (HE.out.2.2 w2 hb)
            clear hb x0 x1 x2 x3 x4 x5 x6 x7 x8 y0 y1 y2 y3 y4 y5 y6 y7 y8 hcj hcp
            go_wp2
            refine ⟨⟨i + 1, S', by go_num, by omega, by omega, Lib.hid ⟨HE.out.1, HE.out.2.1, HE2.out⟩⟩, ?_⟩
            simp [intOf]; omega
    · have hd : decide (i < b) = false := decide_eq_false hlt
      have HV : Hid (∃ R, R.Perm A ∧ Sorted' R ∧ SR W g (P ++ (R ++ Q)) wr) := Lib.hid (by
        have h1 : A.length ≤ i - a := by have := HA.out.2.1; omega
        obtain ⟨p1, p2, p3⟩ := HR.out
        rw [List.take_of_length_le h1] at p1
        rw [List.drop_eq_nil_of_le h1, List.nil_append] at p3
        exact ⟨S, p1, p2, p3⟩)
      go_wp2
      go_end0
      exact ⟨rfl, HV.out⟩
end Go.Proofs.YtnplommdgfgboaaGreatDoor.SortW
set_option linter.unusedVariables false
set_option linter.unusedSimpArgs false
namespace Go.Proofs.YtnplommdgfgboaaGreatDoor.SortW
open Go.RowKit Go.Lib Go.Proofs.YtnplommdgfgboaaGreatDoor.B Go.Proofs.YtnplommdgfgboaaGreatDoor.Rd Go.Proofs.YtnplommdgfgboaaGreatDoor.Utf Go.Proofs.YtnplommdgfgboaaGreatDoor.TermPure Go.Proofs.YtnplommdgfgboaaGreatDoor.LinesPure Go.Proofs.YtnplommdgfgboaaGreatDoor.SortP
theorem sorted_get {l : List Triple} (h : Sorted' l) {i j : Nat} {u v : Triple} (hij : i ≤ j) (hi : l[i]? = some u) (hj : l[j]? = some v) : ¬ ltT v u := by
  obtain ⟨hi', rfl⟩ := List.getElem?_eq_some_iff.1 hi
  obtain ⟨hj', rfl⟩ := List.getElem?_eq_some_iff.1 hj
  by_cases e : i = j
  · subst e
    exact ltT_irrefl _
  · exact List.pairwise_iff_getElem.1 h i j hi' hj' (by omega)
theorem ins_gen {S1 S2 : List Triple} {x : Triple} (h : Sorted' (S1 ++ S2)) (h1 : ∀ u ∈ S1, ¬ ltT x u) (h2 : ∀ v ∈ S2, ¬ ltT v x) : Sorted' (S1 ++ x :: S2) := by
  obtain ⟨p1, p2, p3⟩ := List.pairwise_append.1 h
  refine List.pairwise_append.2 ⟨p1, List.pairwise_cons.2 ⟨h2, p2⟩, fun u hu v hv => ?_⟩
  rcases List.mem_cons.1 hv with rfl | hv
  · exact h1 u hu
  · exact p3 u hu v hv
theorem mem_take_get {l : List Triple} {i : Nat} {u : Triple} (h : u ∈ l.take i) : ∃ k, k < i ∧ l[k]? = some u := by
  obtain ⟨k, hk⟩ := List.mem_iff_getElem?.1 h
  rw [List.getElem?_take] at hk
  split at hk
  · rename_i hlt; exact ⟨k, hlt, hk⟩
  · cases hk
theorem mem_drop_get {l : List Triple} {i : Nat} {u : Triple} (h : u ∈ l.drop i) : ∃ k, i ≤ k ∧ l[k]? = some u := by
  obtain ⟨k, hk⟩ := List.mem_iff_getElem?.1 h
  rw [List.getElem?_drop] at hk
  exact ⟨i + k, by omega, hk⟩
theorem one_in {B : List Triple} {x : Triple} {i : Nat} (hB : Sorted' B) (h1 : i = 0 ∨ ∃ y, B[i - 1]? = some y ∧ ¬ ltT x y) (h2 : B.length ≤ i ∨ ∃ y, B[i]? = some y ∧ ¬ ltT y x) : Sorted' (B.take i ++ x :: B.drop i) := by
  refine ins_gen (by rw [List.take_append_drop]; exact hB) (fun u hu => ?_) (fun v hv => ?_)
  · obtain ⟨k, hk, hu⟩ := mem_take_get hu
    rcases h1 with h1 | ⟨y, hy, hn⟩
    · omega
    · exact SortP.le_trans (sorted_get hB (by omega) hu hy) hn
  · obtain ⟨k, hk, hv⟩ := mem_drop_get hv
    rcases h2 with h2 | ⟨y, hy, hn⟩
    · have := (List.getElem?_eq_some_iff.1 hv).1; omega
    · exact SortP.le_trans hn (sorted_get hB hk hy hv)
theorem one_perm (B : List Triple) (x : Triple) (i : Nat) : (B.take i ++ x :: B.drop i).Perm ([x] ++ B) := by
  refine List.perm_middle.trans ?_
  rw [List.take_append_drop]
  exact List.Perm.refl _
theorem halves {A B R1 R2 : List Triple} {s e : Nat} (hA : Sorted' A) (hB : Sorted' B)
    (h1 : s = 0 ∨ B.length ≤ e ∨ ∃ u v, A[s - 1]? = some u ∧ B[e]? = some v ∧ ¬ ltT v u) (h2 : A.length ≤ s ∨ e = 0 ∨ ∃ u v, B[e - 1]? = some u ∧ A[s]? = some v ∧ ¬ ltT v u)
    (p1 : R1.Perm (A.take s ++ B.take e)) (p2 : R2.Perm (A.drop s ++ B.drop e)) (s1 : Sorted' R1) (s2 : Sorted' R2) : (R1 ++ R2).Perm (A ++ B) ∧ Sorted' (R1 ++ R2) := by
  constructor
  · refine (List.Perm.append p1 p2).trans ?_
    conv => rhs; rw [← List.take_append_drop s A, ← List.take_append_drop e B]
    simp only [List.append_assoc]
    refine List.Perm.append_left _ ?_
    rw [← List.append_assoc, ← List.append_assoc]
    exact List.Perm.append_right _ List.perm_append_comm
  · refine List.pairwise_append.2 ⟨s1, s2, fun x hx y hy => ?_⟩
    rcases List.mem_append.1 (p1.mem_iff.1 hx) with hx | hx
    · obtain ⟨k, hk, hx⟩ := mem_take_get hx
      rcases List.mem_append.1 (p2.mem_iff.1 hy) with hy | hy
      · obtain ⟨q, hq, hy⟩ := mem_drop_get hy
        exact sorted_get hA (by omega) hx hy
      · obtain ⟨q, hq, hy⟩ := mem_drop_get hy
        rcases h1 with h1 | h1 | ⟨u, v, hu, hv, hn⟩
        · omega
        · have := (List.getElem?_eq_some_iff.1 hy).1; omega
        · exact SortP.le_trans (sorted_get hA (by omega) hx hu) (SortP.le_trans hn (sorted_get hB hq hv hy))
    · obtain ⟨k, hk, hx⟩ := mem_take_get hx
      rcases List.mem_append.1 (p2.mem_iff.1 hy) with hy | hy
      · obtain ⟨q, hq, hy⟩ := mem_drop_get hy
        rcases h2 with h2 | h2 | ⟨u, v, hu, hv, hn⟩
        · have := (List.getElem?_eq_some_iff.1 hy).1; omega
        · omega
        · exact SortP.le_trans (sorted_get hB (by omega) hx hu) (SortP.le_trans hn (sorted_get hA hq hv hy))
      · obtain ⟨q, hq, hy⟩ := mem_drop_get hy
        exact sorted_get hB (by omega) hx hy
theorem swap_up (S T : List Triple) (x y : Triple) : swapL (S ++ (x :: y :: T)) S.length (S.length + 1) = S ++ (y :: x :: T) := by
  apply List.ext_getElem?
  intro k
  rw [swapL_get _ _ _ _ (by simp) (by simp)]
  by_cases e1 : k = S.length + 1
  · subst e1
    rw [if_pos rfl, List.getElem?_append_right (by omega), List.getElem?_append_right (by omega)]
    simp
  · rw [if_neg e1]
    by_cases e2 : k = S.length
    · subst e2
      rw [if_pos rfl, List.getElem?_append_right (by omega), List.getElem?_append_right (by omega)]
      simp
    · rw [if_neg e2]
      by_cases e3 : k < S.length
      · rw [List.getElem?_append_left e3, List.getElem?_append_left e3]
      · rw [List.getElem?_append_right (by omega), List.getElem?_append_right (by omega)]
        obtain ⟨d, hd⟩ : ∃ d, k - S.length = d + 2 := ⟨k - S.length - 2, by omega⟩
        rw [hd]
        simp
/-- Where elements of the two rows lie. -/
theorem at_A {P A B Q : List Triple} {k : Nat} (h : k < A.length) : (P ++ (A ++ (B ++ Q)))[P.length + k]? = A[k]? := by
  rw [List.getElem?_append_right (by omega), Nat.add_sub_cancel_left, List.getElem?_append_left h]
theorem at_B {P A B Q : List Triple} {k : Nat} (h : k < B.length) : (P ++ (A ++ (B ++ Q)))[P.length + A.length + k]? = B[k]? := by
  rw [List.getElem?_append_right (by omega), List.getElem?_append_right (by omega), List.getElem?_append_left (by omega)]
  congr 1
  omega
end Go.Proofs.YtnplommdgfgboaaGreatDoor.SortW
set_option linter.unusedVariables false
set_option linter.unusedSimpArgs false
namespace Go.Proofs.YtnplommdgfgboaaGreatDoor.SortW
open Go.RowKit Go.Lib Go.Proofs.YtnplommdgfgboaaGreatDoor.B Go.Proofs.YtnplommdgfgboaaGreatDoor.Rd Go.Proofs.YtnplommdgfgboaaGreatDoor.Utf Go.Proofs.YtnplommdgfgboaaGreatDoor.TermPure Go.Proofs.YtnplommdgfgboaaGreatDoor.LinesPure Go.Proofs.YtnplommdgfgboaaGreatDoor.Tx Go.Proofs.YtnplommdgfgboaaGreatDoor.Env Go.Proofs.YtnplommdgfgboaaGreatDoor.Tri Go.Proofs.YtnplommdgfgboaaGreatDoor.SortP Go.Proofs.YtnplommdgfgboaaGreatDoor.Print Go.Proofs.YtnplommdgfgboaaGreatDoor.Cmp Go.Proofs.YtnplommdgfgboaaGreatDoor.Long
theorem SR.at {W w : World} {g : Nat} {l : List Triple} (h : SR W g l w) {q : Nat} {t : Triple} (hq : l[q]? = some t) : C9 w g (q * 9) t := by
  obtain ⟨h1, rfl⟩ := List.getElem?_eq_some_iff.1 hq
  exact h.cells q h1
set_option maxHeartbeats 12800000 in
set_option maxRecDepth 100000 in
theorem sym_left (P B Q : List Triple) (x : Triple) (L : Nat) (hL : (P ++ ([x] ++ (B ++ Q))).length = L) (hLs : L ≤ 140737488355328) (a m b cap : Nat) (ha : a = P.length) (hm : m = a + 1) (hb : b = m + B.length) (hB : Sorted' B) (hsx : SmallT x) (hsm : ∀ t ∈ B, SmallT t) (g : Nat) (W w : World)
    (hS : SR W g (P ++ ([x] ++ (B ++ Q))) w) :
    Calls Tryz.prog 195 #[.slice (some ⟨g, 0, none⟩) L cap, .int .i64 a, .int .i64 m, .int .i64 b, cmpV] w fun e w' => e = .returned (.tuple #[]) ∧ ∃ R, R.Perm ([x] ++ B) ∧ Sorted' R ∧ SR W g (P ++ (R ++ Q)) w' := by
  have hlen := hL
  simp only [List.length_append, List.length_singleton] at hlen
  have hbL : b ≤ L := by omega
  have hmb : m ≤ b := by omega
  have ham : a < m := by omega
  have HA := Lib.hid (show a = P.length ∧ m = P.length + 1 ∧ b = m + B.length from ⟨ha, by omega, hb⟩)
  have HBs := Lib.hid hB
  have HSm := Lib.hid hsm
  have HSx := Lib.hid hsx
  have HS0 := Lib.hid hS
  have w0 : IntKind.i64.wrap ((m : Int) - (a : Int)) = 1 := by rw [IntKind.wrap_i64]; omega
  clear hS hL hlen ha hb hB hsx hsm hm
  unfold cmpV
  go_enter Tryz.func195, Tryz.ntmps195
  go_wp2
  go_loopw [10, 11] (fun vi vj wr => ∃ i j : Nat, vi = .int .i64 i ∧ vj = .int .i64 j ∧ m ≤ i ∧ i ≤ j ∧ j ≤ b ∧ Hid ((i = m ∨ ∃ y, B[i - 1 - m]? = some y ∧ ltT y x) ∧ (j = b ∨ ∃ y, B[j - m]? = some y ∧ ¬ ltT y x) ∧ SR W g (P ++ ([x] ++ (B ++ Q))) wr)) (fun vi vj _ => (intOf vj).toNat - (intOf vi).toNat)
  case atStart => exact ⟨m, b, rfl, rfl, by omega, by omega, by omega, Lib.hid ⟨.inl rfl, .inl rfl, HS0.out⟩⟩
  case round =>
    obtain ⟨i, j, rfl, rfl, hmi, hij, hjb, HR⟩ := hrel
    clear HS0
    by_cases hlt : i < j
    · have hd : decide (i < j) = true := decide_eq_true hlt
      obtain ⟨h, hh⟩ : ∃ h, h = (i + j) / 2 := ⟨_, rfl⟩
      have hq : ((i : Int) + (j : Int)) / 2 = (h : Int) := by omega
      have hhb : (h : Int) < (L : Int) := by omega
      have hab : (a : Int) < (L : Int) := by omega
      have hmh : m ≤ h := by omega
      have hih : i ≤ h := by omega
      have hhj : h < j := by omega
      clear hh
      have hBl : h - m < B.length := by have := HA.out.2.2; omega
      obtain ⟨y, hy⟩ : ∃ y, B[h - m]? = some y := ⟨_, List.getElem?_eq_getElem hBl⟩
      have hrow : (P ++ ([x] ++ (B ++ Q)))[h]? = some y := by
        rw [← hy, ← at_B (P := P) (A := [x]) (B := B) (Q := Q) hBl]
        congr 1
        have := HA.out.2.1
        simp
        omega
      have hrow0 : (P ++ ([x] ++ (B ++ Q)))[a]? = some x := by
        have := at_A (P := P) (A := [x]) (B := B) (Q := Q) (k := 0) (by simp)
        rw [HA.out.1]
        rw [Nat.add_zero] at this
        rw [this]
        rfl
      have hch := HR.out.2.2.at hrow
      have hca := HR.out.2.2.at hrow0
      have hgl := hch.lt
      have HBk : Hid (∀ w2, Below wr.heap.size wr w2 → SR W g (P ++ ([x] ++ (B ++ Q))) w2) := Lib.hid (fun w2 hb => HR.out.2.2.below hgl hb)
      have HC := Lib.hid (fun w => cmp_calls y x (HSm.out y (List.mem_of_getElem? hy)) HSx.out w)
      have HLt : Hid (cmpT y x < 0 ↔ ltT y x) := Lib.hid Iff.rfl
      have HY := Lib.hid hy
      have HI := Lib.hid HR.out.1
      have HJ := Lib.hid HR.out.2.1
      obtain ⟨v, hv⟩ : ∃ v, v = cmpT y x := ⟨_, rfl⟩
      rw [← hv] at HC HLt
      clear hv hy hrow hrow0 hBl HR
      by_cases hvn : v < 0
      · have hvd : decide (v < 0) = true := decide_eq_true hvn
        have HYL : Hid (ltT y x) := Lib.hid (HLt.out.1 hvn)
        have HI2 : Hid (h + 1 = m ∨ ∃ y, B[h + 1 - 1 - m]? = some y ∧ ltT y x) := Lib.hid (.inr ⟨y, by rw [show h + 1 - 1 - m = h - m by omega]; exact HY.out, HYL.out⟩)
        clear hvn HLt HY HYL HI
        obtain ⟨⟨sk', sx', se'⟩, ⟨pk', px', pe'⟩, ⟨ok', ox', oe'⟩⟩ := y
        obtain ⟨⟨sk, sx, se⟩, ⟨pk, px, pe⟩, ⟨ok, ox, oe⟩⟩ := x
        have y0 := fun p => (hch.bel p).c0
        have y1 := fun p => (hch.bel p).c1
        have y2 := fun p => (hch.bel p).c2
        have y3 := fun p => (hch.bel p).c3
        have y4 := fun p => (hch.bel p).c4
        have y5 := fun p => (hch.bel p).c5
        have y6 := fun p => (hch.bel p).c6
        have y7 := fun p => (hch.bel p).c7
        have y8 := fun p => (hch.bel p).c8
        have x0 := fun p => (hca.bel p).c0
        have x1 := fun p => (hca.bel p).c1
        have x2 := fun p => (hca.bel p).c2
        have x3 := fun p => (hca.bel p).c3
        have x4 := fun p => (hca.bel p).c4
        have x5 := fun p => (hca.bel p).c5
        have x6 := fun p => (hca.bel p).c6
        have x7 := fun p => (hca.bel p).c7
        have x8 := fun p => (hca.bel p).c8
        dsimp only at y0 y1 y2 y3 y4 y5 y6 y7 y8 x0 x1 x2 x3 x4 x5 x6 x7 x8
        unfold Ref5.tripleV at HC
        dsimp only at HC
        go_upto_region 5 with fail
        refine QT.region_all (by kernel_rfl) (by kernel_rfl) ?_
        iterate 9 (go_big_quiet_step (fail))
        go_big_quiet_step (exact QT.Bel.call _ (HC.out _))
        iterate 1 (go_big_quiet_step (fail))
        refine wpQuiet_nil ?_
        intro w2 hw'
        obtain ⟨⟨_, hb⟩, rfl⟩ := hw'
        have HS2 := Lib.hid (HBk.out w2 hb)
        clear hb y0 y1 y2 y3 y4 y5 y6 y7 y8 x0 x1 x2 x3 x4 x5 x6 x7 x8 hch hca
        go_wp2
        go_roundw
        case rel => exact ⟨h + 1, j, by go_num, rfl, by omega, by omega, hjb, Lib.hid ⟨HI2.out, HJ.out, HS2.out⟩⟩
        case measure => simp [intOf]; omega
      · have hvd : decide (v < 0) = false := decide_eq_false hvn
        have HYL : Hid (¬ ltT y x) := Lib.hid (fun hl => hvn (HLt.out.2 hl))
        have HJ2 : Hid (h = b ∨ ∃ y, B[h - m]? = some y ∧ ¬ ltT y x) := Lib.hid (.inr ⟨y, HY.out, HYL.out⟩)
        clear hvn HLt HY HYL HJ
        obtain ⟨⟨sk', sx', se'⟩, ⟨pk', px', pe'⟩, ⟨ok', ox', oe'⟩⟩ := y
        obtain ⟨⟨sk, sx, se⟩, ⟨pk, px, pe⟩, ⟨ok, ox, oe⟩⟩ := x
        have y0 := fun p => (hch.bel p).c0
        have y1 := fun p => (hch.bel p).c1
        have y2 := fun p => (hch.bel p).c2
        have y3 := fun p => (hch.bel p).c3
        have y4 := fun p => (hch.bel p).c4
        have y5 := fun p => (hch.bel p).c5
        have y6 := fun p => (hch.bel p).c6
        have y7 := fun p => (hch.bel p).c7
        have y8 := fun p => (hch.bel p).c8
        have x0 := fun p => (hca.bel p).c0
        have x1 := fun p => (hca.bel p).c1
        have x2 := fun p => (hca.bel p).c2
        have x3 := fun p => (hca.bel p).c3
        have x4 := fun p => (hca.bel p).c4
        have x5 := fun p => (hca.bel p).c5
        have x6 := fun p => (hca.bel p).c6
        have x7 := fun p => (hca.bel p).c7
        have x8 := fun p => (hca.bel p).c8
        dsimp only at y0 y1 y2 y3 y4 y5 y6 y7 y8 x0 x1 x2 x3 x4 x5 x6 x7 x8
        unfold Ref5.tripleV at HC
        dsimp only at HC
        go_upto_region 5 with fail
        refine QT.region_all (by kernel_rfl) (by kernel_rfl) ?_
        iterate 9 (go_big_quiet_step (fail))
        go_big_quiet_step (exact QT.Bel.call _ (HC.out _))
        iterate 1 (go_big_quiet_step (fail))
        refine wpQuiet_nil ?_
        intro w2 hw'
        obtain ⟨⟨_, hb⟩, rfl⟩ := hw'
        have HS2 := Lib.hid (HBk.out w2 hb)
        clear hb y0 y1 y2 y3 y4 y5 y6 y7 y8 x0 x1 x2 x3 x4 x5 x6 x7 x8 hch hca
        go_wp2
        go_roundw
        case rel => exact ⟨i, h, rfl, by go_num, hmi, by omega, by omega, Lib.hid ⟨HI.out, HJ2.out, HS2.out⟩⟩
        case measure => simp [intOf]; omega
    · have hd : decide (i < j) = false := decide_eq_false hlt
      obtain rfl : i = j := by omega
      obtain ⟨n, hn⟩ : ∃ n, n = i - m := ⟨_, rfl⟩
      obtain ⟨i1, hi1⟩ : ∃ i1, i1 + 1 = i := ⟨i - 1, by omega⟩
      have wi : IntKind.i64.wrap ((i : Int) - 1) = (i1 : Int) := by rw [IntKind.wrap_i64]; omega
      have HSorted : Hid (Sorted' (B.take n ++ x :: B.drop n) ∧ (B.take n ++ x :: B.drop n).Perm ([x] ++ B) ∧ n ≤ B.length) := Lib.hid (by
        obtain ⟨h1, h2, _⟩ := HR.out
        refine ⟨one_in HBs.out ?_ ?_, one_perm B x n, by have := HA.out.2.2; omega⟩
        · rcases h1 with h1 | ⟨y, hy, hl⟩
          · left; omega
          · right; exact ⟨y, by rw [← hy]; congr 1; omega, ltT_asymm hl⟩
        · rcases h2 with h2 | ⟨y, hy, hl⟩
          · left; have := HA.out.2.2; omega
          · right; exact ⟨y, by rw [← hy]; congr 1, hl⟩)
      have HR0 : Hid (SR W g (P ++ (B.take 0 ++ (x :: (B.drop 0 ++ Q)))) wr) := Lib.hid HR.out.2.2
      have hni : n + m = i := by omega
      clear HR hn
      go_wp2
      go_loopw [13] (fun vk wr => ∃ k c : Nat, vk = .int .i64 k ∧ k = a + c ∧ c ≤ n ∧ Hid (SR W g (P ++ (B.take c ++ (x :: (B.drop c ++ Q)))) wr)) (fun vk _ => n + a - (intOf vk).toNat)
      case atStart => exact ⟨a, 0, rfl, by omega, by omega, HR0⟩
      case round =>
        obtain ⟨k, c, rfl, hkc, hcn, HR⟩ := hrel
        have HKC := Lib.hid hkc
        clear HR0
        by_cases hck : c < n
        · have hd2 : decide (k < i1) = true := decide_eq_true (by omega)
          have hd3 : (k : Int) < (i1 : Int) := by omega
          obtain ⟨k1, hk1⟩ : ∃ k1, k1 = k + 1 := ⟨_, rfl⟩
          have wk : IntKind.i64.wrap ((k : Int) + 1) = (k1 : Int) := by rw [IntKind.wrap_i64]; omega
          have hkL : (k : Int) < (L : Int) := by omega
          have hk1L : (k1 : Int) < (L : Int) := by omega
          have hcB : c < B.length := Nat.lt_of_lt_of_le hck HSorted.out.2.2
          obtain ⟨y, hy⟩ : ∃ y, y = B[c] := ⟨_, rfl⟩
          have hdrop : B.drop c = y :: B.drop (c + 1) := by rw [hy]; exact List.drop_eq_getElem_cons hcB
          have htake : B.take (c + 1) = B.take c ++ [y] := by rw [hy, List.take_succ_eq_append_getElem hcB]
          have hlenT : (P ++ B.take c).length = k := by rw [List.length_append, List.length_take]; have := HA.out.1; omega
          have HS9 : SR W g ((P ++ B.take c) ++ (x :: y :: (B.drop (c + 1) ++ Q))) wr := by
            have := HR.out
            rw [hdrop] at this
            rw [List.append_assoc]
            exact this
          have gx : ((P ++ B.take c) ++ (x :: y :: (B.drop (c + 1) ++ Q)))[k]? = some x := by rw [List.getElem?_append_right (by omega), hlenT]; simp
          have gy : ((P ++ B.take c) ++ (x :: y :: (B.drop (c + 1) ++ Q)))[k1]? = some y := by rw [List.getElem?_append_right (by omega), hlenT, show k1 - k = 1 by omega]; simp
          obtain ⟨lx, ex⟩ := List.getElem?_eq_some_iff.1 gx
          obtain ⟨ly, ey⟩ := List.getElem?_eq_some_iff.1 gy
          have HSwF : Hid (SR W g (P ++ (B.take (c + 1) ++ (x :: (B.drop (c + 1) ++ Q)))) (put9 (put9 wr g (k * 9) y) g (k1 * 9) x).drew) := Lib.hid (by
            have hSw := HS9.swap k k1 lx ly
            rw [ex, ey, show k1 = (P ++ B.take c).length + 1 by omega, ← hlenT, swap_up] at hSw
            rw [hlenT] at hSw
            have h2 := hSw.drew
            rw [htake]
            rw [← hk1] at h2
            simpa [List.append_assoc] using h2)
          have hcx := HS9.at gx
          have hcy := HS9.at gy
          have fx := HS9.free9 k lx
          have fy := HS9.free9 k1 ly
          have h9 : k * 9 + 9 ≤ k1 * 9 := by omega
          have HK1 := Lib.hid hk1
          clear gx gy lx ly ex ey HS9 hlenT htake hdrop hy hcB
          obtain ⟨⟨sk', sx', se'⟩, ⟨pk', px', pe'⟩, ⟨ok', ox', oe'⟩⟩ := y
          obtain ⟨⟨sk, sx, se⟩, ⟨pk, px, pe⟩, ⟨ok, ox, oe⟩⟩ := x
          unfold put9 at HSwF
          dsimp only at HSwF
          obtain ⟨x0, x1, x2, x3, x4, x5, x6, x7, x8⟩ := hcx
          obtain ⟨y0, y1, y2, y3, y4, y5, y6, y7, y8⟩ := hcy
          obtain ⟨f0, f1, f2, f3, f4, f5, f6, f7, f8⟩ := fx
          obtain ⟨e0, e1, e2, e3, e4, e5, e6, e7, e8⟩ := fy
          dsimp only at x0 x1 x2 x3 x4 x5 x6 x7 x8 y0 y1 y2 y3 y4 y5 y6 y7 y8
          have D1 : ∀ e d, d < 9 → (k1 * 9 + e = k * 9 + d) = False := fun e d hd => eq_false (by omega)
          have D2 : ∀ d, d < 9 → (k1 * 9 = k * 9 + d) = False := fun d hd => eq_false (by omega)
          have D3 : ∀ e, (k1 * 9 + e = k * 9) = False := fun e => eq_false (by omega)
          have D4 : (k1 * 9 = k * 9) = False := eq_false (by omega)
          have D5 : ∀ e d, d < 9 → (k * 9 + d = k1 * 9 + e) = False := fun e d hd => eq_false (by omega)
          have D6 : ∀ d, d < 9 → (k * 9 + d = k1 * 9) = False := fun d hd => eq_false (by omega)
          have D7 : ∀ e, (k * 9 = k1 * 9 + e) = False := fun e => eq_false (by omega)
          have D8 : (k * 9 = k1 * 9) = False := eq_false (by omega)
          clear h9 hkc hk1
          go_upto_region 11 with fail
          go_big_region
          all_goals go_wp2
          go_roundw
          case rel => exact ⟨k1, c + 1, by go_num, by have := HKC.out; have := HK1.out; omega, by omega, HSwF⟩
          case measure => have := HKC.out; have := HK1.out; simp [intOf]; omega
        · have hd2 : decide (k < i1) = false := decide_eq_false (by have h1 := HA.out.1; have h2 := HA.out.2.1; omega)
          have hd3 : ¬ ((k : Int) < (i1 : Int)) := by have h1 := HA.out.1; have h2 := HA.out.2.1; omega
          obtain rfl : c = n := by omega
          clear hkc
          go_wp2
          ((try simp only [Exit.inBlock, Exit.then]); refine bodyPost_ret (results_none rfl _ _ _) rfl ?_)
          exact ⟨rfl, _, HSorted.out.2.1, HSorted.out.1, by rw [List.append_assoc]; exact HR.out⟩
end Go.Proofs.YtnplommdgfgboaaGreatDoor.SortW
set_option linter.unusedVariables false
set_option linter.unusedSimpArgs false
namespace Go.Proofs.YtnplommdgfgboaaGreatDoor.SortW
open Go.RowKit Go.Lib Go.Proofs.YtnplommdgfgboaaGreatDoor.B Go.Proofs.YtnplommdgfgboaaGreatDoor.Rd Go.Proofs.YtnplommdgfgboaaGreatDoor.Utf Go.Proofs.YtnplommdgfgboaaGreatDoor.TermPure Go.Proofs.YtnplommdgfgboaaGreatDoor.LinesPure Go.Proofs.YtnplommdgfgboaaGreatDoor.Tx Go.Proofs.YtnplommdgfgboaaGreatDoor.Env Go.Proofs.YtnplommdgfgboaaGreatDoor.Tri Go.Proofs.YtnplommdgfgboaaGreatDoor.SortP Go.Proofs.YtnplommdgfgboaaGreatDoor.Print Go.Proofs.YtnplommdgfgboaaGreatDoor.Cmp Go.Proofs.YtnplommdgfgboaaGreatDoor.Long
set_option maxHeartbeats 12800000 in
set_option maxRecDepth 100000 in
theorem sym_right (P A Q : List Triple) (y : Triple) (L : Nat) (hL : (P ++ (A ++ ([y] ++ Q))).length = L) (hLs : L ≤ 140737488355328) (a m b cap : Nat) (ha : a = P.length) (hm : m = a + A.length) (hb : b = m + 1) (h2 : 2 ≤ A.length) (hA : Sorted' A) (hsx : SmallT y) (hsm : ∀ t ∈ A, SmallT t) (g : Nat) (W w : World)
    (hS : SR W g (P ++ (A ++ ([y] ++ Q))) w) :
    Calls Tryz.prog 195 #[.slice (some ⟨g, 0, none⟩) L cap, .int .i64 a, .int .i64 m, .int .i64 b, cmpV] w fun e w' => e = .returned (.tuple #[]) ∧ ∃ R, R.Perm (A ++ [y]) ∧ Sorted' R ∧ SR W g (P ++ (R ++ Q)) w' := by
  have hlen := hL
  simp only [List.length_append, List.length_singleton] at hlen
  have hmL : m < L := by omega
  have ham : a ≤ m := by omega
  have HA := Lib.hid (show a = P.length ∧ m = P.length + A.length ∧ b = m + 1 from ⟨ha, by omega, hb⟩)
  have HAs := Lib.hid hA
  have HSm := Lib.hid hsm
  have HSx := Lib.hid hsx
  have HS0 := Lib.hid hS
  obtain ⟨d0, hd0⟩ : ∃ d0, d0 = m - a := ⟨_, rfl⟩
  have w0 : IntKind.i64.wrap ((m : Int) - (a : Int)) = (d0 : Int) := by rw [IntKind.wrap_i64]; omega
  have w00 : ((d0 : Int) == 1) = false := by rw [beq_eq_false_iff_ne]; omega
  have w01 : IntKind.i64.wrap ((b : Int) - (m : Int)) = 1 := by rw [IntKind.wrap_i64]; omega
  clear hS hL hlen ha hb hA hsx hsm hm hd0 h2
  unfold cmpV
  go_enter Tryz.func195, Tryz.ntmps195
  go_wp2
  go_loopw [14, 15] (fun vi vj wr => ∃ i j : Nat, vi = .int .i64 i ∧ vj = .int .i64 j ∧ a ≤ i ∧ i ≤ j ∧ j ≤ m ∧ Hid ((i = a ∨ ∃ x, A[i - 1 - a]? = some x ∧ ¬ ltT y x) ∧ (j = m ∨ ∃ x, A[j - a]? = some x ∧ ltT y x) ∧ SR W g (P ++ (A ++ ([y] ++ Q))) wr)) (fun vi vj _ => (intOf vj).toNat - (intOf vi).toNat)
  case atStart => exact ⟨a, m, rfl, rfl, by omega, by omega, by omega, Lib.hid ⟨.inl rfl, .inl rfl, HS0.out⟩⟩
  case round =>
    obtain ⟨i, j, rfl, rfl, hmi, hij, hjb, HR⟩ := hrel
    clear HS0 w0 w00 w01
    by_cases hlt : i < j
    · have hd : decide (i < j) = true := decide_eq_true hlt
      obtain ⟨h, hh⟩ : ∃ h, h = (i + j) / 2 := ⟨_, rfl⟩
      have hq : ((i : Int) + (j : Int)) / 2 = (h : Int) := by omega
      have hhb : (h : Int) < (L : Int) := by omega
      have hab : (m : Int) < (L : Int) := by omega
      have hih : i ≤ h := by omega
      have hhj : h < j := by omega
      clear hh
      have hAl : h - a < A.length := by have h1 := HA.out.1; have h2 := HA.out.2.1; omega
      obtain ⟨x, hx⟩ : ∃ x, A[h - a]? = some x := ⟨_, List.getElem?_eq_getElem hAl⟩
      have hrow : (P ++ (A ++ ([y] ++ Q)))[h]? = some x := by
        rw [← hx, ← at_A (P := P) (A := A) (B := [y]) (Q := Q) hAl]
        congr 1
        have := HA.out.1
        omega
      have hrow0 : (P ++ (A ++ ([y] ++ Q)))[m]? = some y := by
        have := at_B (P := P) (A := A) (B := [y]) (Q := Q) (k := 0) (by simp)
        rw [HA.out.2.1]
        rw [Nat.add_zero] at this
        rw [this]
        rfl
      have hch := HR.out.2.2.at hrow
      have hcm := HR.out.2.2.at hrow0
      have hgl := hch.lt
      have HBk : Hid (∀ w2, Below wr.heap.size wr w2 → SR W g (P ++ (A ++ ([y] ++ Q))) w2) := Lib.hid (fun w2 hb => HR.out.2.2.below hgl hb)
      have HC := Lib.hid (fun w => cmp_calls y x HSx.out (HSm.out x (List.mem_of_getElem? hx)) w)
      have HLt : Hid (cmpT y x < 0 ↔ ltT y x) := Lib.hid Iff.rfl
      have HX := Lib.hid hx
      have HI := Lib.hid HR.out.1
      have HJ := Lib.hid HR.out.2.1
      obtain ⟨v, hv⟩ : ∃ v, v = cmpT y x := ⟨_, rfl⟩
      rw [← hv] at HC HLt
      clear hv hx hrow hrow0 hAl HR
      by_cases hvn : v < 0
      · have hvd : decide (v < 0) = true := decide_eq_true hvn
        have HYL : Hid (ltT y x) := Lib.hid (HLt.out.1 hvn)
        have HJ2 : Hid (h = m ∨ ∃ x, A[h - a]? = some x ∧ ltT y x) := Lib.hid (.inr ⟨x, HX.out, HYL.out⟩)
        clear hvn HLt HX HYL HJ
        obtain ⟨⟨sk', sx', se'⟩, ⟨pk', px', pe'⟩, ⟨ok', ox', oe'⟩⟩ := y
        obtain ⟨⟨sk, sx, se⟩, ⟨pk, px, pe⟩, ⟨ok, ox, oe⟩⟩ := x
        have y0 := fun p => (hcm.bel p).c0
        have y1 := fun p => (hcm.bel p).c1
        have y2 := fun p => (hcm.bel p).c2
        have y3 := fun p => (hcm.bel p).c3
        have y4 := fun p => (hcm.bel p).c4
        have y5 := fun p => (hcm.bel p).c5
        have y6 := fun p => (hcm.bel p).c6
        have y7 := fun p => (hcm.bel p).c7
        have y8 := fun p => (hcm.bel p).c8
        have x0 := fun p => (hch.bel p).c0
        have x1 := fun p => (hch.bel p).c1
        have x2 := fun p => (hch.bel p).c2
        have x3 := fun p => (hch.bel p).c3
        have x4 := fun p => (hch.bel p).c4
        have x5 := fun p => (hch.bel p).c5
        have x6 := fun p => (hch.bel p).c6
        have x7 := fun p => (hch.bel p).c7
        have x8 := fun p => (hch.bel p).c8
        dsimp only at y0 y1 y2 y3 y4 y5 y6 y7 y8 x0 x1 x2 x3 x4 x5 x6 x7 x8
        unfold Ref5.tripleV at HC
        dsimp only at HC
        go_upto_region 17 with fail
        refine QT.region_all (by kernel_rfl) (by kernel_rfl) ?_
        iterate 9 (go_big_quiet_step (fail))
        go_big_quiet_step (exact QT.Bel.call _ (HC.out _))
        iterate 2 (go_big_quiet_step (fail))
        refine wpQuiet_nil ?_
        intro w2 hw'
        obtain ⟨⟨_, hb⟩, rfl⟩ := hw'
        have HS2 := Lib.hid (HBk.out w2 hb)
        clear hb y0 y1 y2 y3 y4 y5 y6 y7 y8 x0 x1 x2 x3 x4 x5 x6 x7 x8 hch hcm
        go_wp2
        go_roundw
        case rel => exact ⟨i, h, rfl, by go_num, hmi, by omega, by omega, Lib.hid ⟨HI.out, HJ2.out, HS2.out⟩⟩
        case measure => simp [intOf]; omega
      · have hvd : decide (v < 0) = false := decide_eq_false hvn
        have HYL : Hid (¬ ltT y x) := Lib.hid (fun hl => hvn (HLt.out.2 hl))
        have HI2 : Hid (h + 1 = a ∨ ∃ x, A[h + 1 - 1 - a]? = some x ∧ ¬ ltT y x) := Lib.hid (.inr ⟨x, by rw [show h + 1 - 1 - a = h - a by omega]; exact HX.out, HYL.out⟩)
        clear hvn HLt HX HYL HI
        obtain ⟨⟨sk', sx', se'⟩, ⟨pk', px', pe'⟩, ⟨ok', ox', oe'⟩⟩ := y
        obtain ⟨⟨sk, sx, se⟩, ⟨pk, px, pe⟩, ⟨ok, ox, oe⟩⟩ := x
        have y0 := fun p => (hcm.bel p).c0
        have y1 := fun p => (hcm.bel p).c1
        have y2 := fun p => (hcm.bel p).c2
        have y3 := fun p => (hcm.bel p).c3
        have y4 := fun p => (hcm.bel p).c4
        have y5 := fun p => (hcm.bel p).c5
        have y6 := fun p => (hcm.bel p).c6
        have y7 := fun p => (hcm.bel p).c7
        have y8 := fun p => (hcm.bel p).c8
        have x0 := fun p => (hch.bel p).c0
        have x1 := fun p => (hch.bel p).c1
        have x2 := fun p => (hch.bel p).c2
        have x3 := fun p => (hch.bel p).c3
        have x4 := fun p => (hch.bel p).c4
        have x5 := fun p => (hch.bel p).c5
        have x6 := fun p => (hch.bel p).c6
        have x7 := fun p => (hch.bel p).c7
        have x8 := fun p => (hch.bel p).c8
        dsimp only at y0 y1 y2 y3 y4 y5 y6 y7 y8 x0 x1 x2 x3 x4 x5 x6 x7 x8
        unfold Ref5.tripleV at HC
        dsimp only at HC
        go_upto_region 17 with fail
        refine QT.region_all (by kernel_rfl) (by kernel_rfl) ?_
        iterate 9 (go_big_quiet_step (fail))
        go_big_quiet_step (exact QT.Bel.call _ (HC.out _))
        iterate 2 (go_big_quiet_step (fail))
        refine wpQuiet_nil ?_
        intro w2 hw'
        obtain ⟨⟨_, hb⟩, rfl⟩ := hw'
        have HS2 := Lib.hid (HBk.out w2 hb)
        clear hb y0 y1 y2 y3 y4 y5 y6 y7 y8 x0 x1 x2 x3 x4 x5 x6 x7 x8 hch hcm
        go_wp2
        go_roundw
        case rel => exact ⟨h + 1, j, by go_num, rfl, by omega, by omega, hjb, Lib.hid ⟨HI2.out, HJ.out, HS2.out⟩⟩
        case measure => simp [intOf]; omega
    · have hd : decide (i < j) = false := decide_eq_false hlt
      obtain rfl : i = j := by omega
      obtain ⟨n, hn⟩ : ∃ n, n = i - a := ⟨_, rfl⟩
      have HSorted : Hid (Sorted' (A.take n ++ y :: A.drop n) ∧ (A.take n ++ y :: A.drop n).Perm (A ++ [y]) ∧ n ≤ A.length) := Lib.hid (by
        obtain ⟨h1, h2, _⟩ := HR.out
        have h3 := HA.out.1
        have h4 := HA.out.2.1
        refine ⟨one_in HAs.out ?_ ?_, (one_perm A y n).trans List.perm_append_comm, by omega⟩
        · rcases h1 with h1 | ⟨x, hx, hl⟩
          · left; omega
          · right; exact ⟨x, by rw [← hx]; congr 1; omega, hl⟩
        · rcases h2 with h2 | ⟨x, hx, hl⟩
          · left; omega
          · right; exact ⟨x, by rw [← hx]; congr 1, ltT_asymm hl⟩)
      have HR0 : Hid (SR W g (P ++ (A.take A.length ++ (y :: (A.drop A.length ++ Q)))) wr) := Lib.hid (by
        rw [List.take_length, List.drop_length]
        exact HR.out.2.2)
      have hni : n + a = i := by omega
      obtain ⟨nA, hnA⟩ : ∃ nA, nA = A.length := ⟨_, rfl⟩
      have hmA : m = a + nA := by have h3 := HA.out.1; have h4 := HA.out.2.1; omega
      have HMA := Lib.hid hmA
      have HNA := Lib.hid hnA
      have hmn : n ≤ nA := by rw [hnA]; exact HSorted.out.2.2
      have hma : a ≤ m := ham
      rw [← hnA] at HR0
      clear HR hn hnA hmA
      go_wp2
      go_loopw [17] (fun vk wr => ∃ k c : Nat, vk = .int .i64 k ∧ k ≤ m ∧ Hid (k = a + c) ∧ n ≤ c ∧ c ≤ nA ∧ Hid (SR W g (P ++ (A.take c ++ (y :: (A.drop c ++ Q)))) wr)) (fun vk _ => (intOf vk).toNat - a)
      case atStart => exact ⟨m, nA, rfl, by omega, HMA, by omega, by omega, HR0⟩
      case round =>
        obtain ⟨k, c, rfl, hkm, HKC, hcn, hcA, HR⟩ := hrel
        clear HR0
        by_cases hck : n < c
        · have hik : i < k := by have := HKC.out; omega
          have hd2 : decide (i < k) = true := decide_eq_true hik
          obtain ⟨k1, hk1⟩ : ∃ k1, k1 + 1 = k := ⟨k - 1, by omega⟩
          obtain ⟨c1, hc1⟩ : ∃ c1, c1 + 1 = c := ⟨c - 1, by omega⟩
          have wk : IntKind.i64.wrap ((k : Int) - 1) = (k1 : Int) := by rw [IntKind.wrap_i64]; omega
          have hkL : (k : Int) < (L : Int) := by omega
          have hk1L : (k1 : Int) < (L : Int) := by omega
          have hcB : c1 < A.length := by have := HNA.out; omega
          obtain ⟨x, hx⟩ : ∃ x, x = A[c1] := ⟨_, rfl⟩
          have hdrop : A.drop c1 = x :: A.drop c := by rw [hx, ← hc1]; exact List.drop_eq_getElem_cons hcB
          have htake : A.take c = A.take c1 ++ [x] := by rw [hx, ← hc1, List.take_succ_eq_append_getElem hcB]
          have hlenT : (P ++ A.take c1).length = k1 := by rw [List.length_append, List.length_take]; have := HA.out.1; have := HKC.out; omega
          have HS9 : SR W g ((P ++ A.take c1) ++ (x :: y :: (A.drop c ++ Q))) wr := by
            have := HR.out
            rw [htake] at this
            simpa [List.append_assoc] using this
          have gx : ((P ++ A.take c1) ++ (x :: y :: (A.drop c ++ Q)))[k1]? = some x := by rw [List.getElem?_append_right (by omega), hlenT]; simp
          have gy : ((P ++ A.take c1) ++ (x :: y :: (A.drop c ++ Q)))[k]? = some y := by rw [List.getElem?_append_right (by omega), hlenT, show k - k1 = 1 by omega]; simp
          obtain ⟨lx, ex⟩ := List.getElem?_eq_some_iff.1 gx
          obtain ⟨ly, ey⟩ := List.getElem?_eq_some_iff.1 gy
          have HSwF : Hid (SR W g (P ++ (A.take c1 ++ (y :: (A.drop c1 ++ Q)))) (put9 (put9 wr g (k * 9) x) g (k1 * 9) y).drew) := Lib.hid (by
            have hSw := HS9.swap k k1 ly lx
            rw [ex, ey, show k = (P ++ A.take c1).length + 1 by omega, ← hlenT, swap_adj] at hSw
            rw [hlenT, hk1] at hSw
            have h2 := hSw.drew
            rw [hdrop]
            simpa [List.append_assoc] using h2)
          have hcx := HS9.at gx
          have hcy := HS9.at gy
          have fx := HS9.free9 k1 lx
          have fy := HS9.free9 k ly
          have h9 : k1 * 9 + 9 ≤ k * 9 := by omega
          have HK1 := Lib.hid hk1
          have HC1 := Lib.hid hc1
          have HKC2 : Hid (k1 = a + c1) := Lib.hid (by have := HKC.out; omega)
          have hb1 : k1 < k := by omega
          have hb2 : n ≤ c1 := by omega
          have hb3 : c1 ≤ nA := by omega
          have hb4 : a < k := by omega
          clear gx gy lx ly ex ey HS9 hlenT htake hdrop hx hcB hc1
          obtain ⟨⟨sk', sx', se'⟩, ⟨pk', px', pe'⟩, ⟨ok', ox', oe'⟩⟩ := y
          obtain ⟨⟨sk, sx, se⟩, ⟨pk, px, pe⟩, ⟨ok, ox, oe⟩⟩ := x
          unfold put9 at HSwF
          dsimp only at HSwF
          obtain ⟨x0, x1, x2, x3, x4, x5, x6, x7, x8⟩ := hcx
          obtain ⟨y0, y1, y2, y3, y4, y5, y6, y7, y8⟩ := hcy
          obtain ⟨f0, f1, f2, f3, f4, f5, f6, f7, f8⟩ := fx
          obtain ⟨e0, e1, e2, e3, e4, e5, e6, e7, e8⟩ := fy
          dsimp only at x0 x1 x2 x3 x4 x5 x6 x7 x8 y0 y1 y2 y3 y4 y5 y6 y7 y8
          have D1 : ∀ e d, d < 9 → (k * 9 + e = k1 * 9 + d) = False := fun e d hd => eq_false (by omega)
          have D2 : ∀ d, d < 9 → (k * 9 = k1 * 9 + d) = False := fun d hd => eq_false (by omega)
          have D3 : ∀ e, (k * 9 + e = k1 * 9) = False := fun e => eq_false (by omega)
          have D4 : (k * 9 = k1 * 9) = False := eq_false (by omega)
          have D5 : ∀ e d, d < 9 → (k1 * 9 + d = k * 9 + e) = False := fun e d hd => eq_false (by omega)
          have D6 : ∀ d, d < 9 → (k1 * 9 + d = k * 9) = False := fun d hd => eq_false (by omega)
          have D7 : ∀ e, (k1 * 9 = k * 9 + e) = False := fun e => eq_false (by omega)
          have D8 : (k1 * 9 = k * 9) = False := eq_false (by omega)
          clear h9 hk1
          go_upto_region 23 with fail
          go_big_region
          all_goals go_wp2
          go_roundw
          case rel => exact ⟨k1, c1, by go_num, by omega, HKC2, hb2, hb3, HSwF⟩
          case measure => simp [intOf]; omega
        · have hki : k = i := by have := HKC.out; omega
          have hd2 : decide (i < k) = false := decide_eq_false (by omega)
          have hcn2 : c = n := by omega
          have HR9 : Hid (SR W g (P ++ ((A.take n ++ y :: A.drop n) ++ Q)) wr) := Lib.hid (by rw [← hcn2, List.append_assoc]; exact HR.out)
          clear hki hcn2
          go_wp2
          ((try simp only [Exit.inBlock, Exit.then]); refine bodyPost_ret (results_none rfl _ _ _) rfl ?_)
          exact ⟨rfl, _, HSorted.out.2.1, HSorted.out.1, HR9.out⟩
end Go.Proofs.YtnplommdgfgboaaGreatDoor.SortW
set_option linter.unusedVariables false
set_option linter.unusedSimpArgs false
namespace Go.Proofs.YtnplommdgfgboaaGreatDoor.SortW
open Go.RowKit Go.Lib Go.Proofs.YtnplommdgfgboaaGreatDoor.B Go.Proofs.YtnplommdgfgboaaGreatDoor.Rd Go.Proofs.YtnplommdgfgboaaGreatDoor.Utf Go.Proofs.YtnplommdgfgboaaGreatDoor.TermPure Go.Proofs.YtnplommdgfgboaaGreatDoor.LinesPure Go.Proofs.YtnplommdgfgboaaGreatDoor.Tx Go.Proofs.YtnplommdgfgboaaGreatDoor.Env Go.Proofs.YtnplommdgfgboaaGreatDoor.Tri Go.Proofs.YtnplommdgfgboaaGreatDoor.SortP Go.Proofs.YtnplommdgfgboaaGreatDoor.Print Go.Proofs.YtnplommdgfgboaaGreatDoor.Cmp Go.Proofs.YtnplommdgfgboaaGreatDoor.Long
/-- What symMerge answers of rows no longer than so. -/
def SymC (L cap g : Nat) (W : World) (N : Nat) : Prop := ∀ (P A B Q : List Triple) (a m b : Nat) (w : World), A.length + B.length ≤ N → 0 < A.length → 0 < B.length → (P ++ (A ++ (B ++ Q))).length = L →
    a = P.length → m = a + A.length → b = m + B.length → Sorted' A → Sorted' B → (∀ t ∈ A ++ B, SmallT t) → SR W g (P ++ (A ++ (B ++ Q))) w → Calls Tryz.prog 195 #[.slice (some ⟨g, 0, none⟩) L cap, .int .i64 a, .int .i64 m, .int .i64 b, cmpV] w fun e w' => e = .returned (.tuple #[]) ∧ ∃ R, R.Perm (A ++ B) ∧ Sorted' R ∧ SR W g (P ++ (R ++ Q)) w'
set_option maxHeartbeats 25600000 in
set_option maxRecDepth 100000 in
theorem sym_gen1 (L cap : Nat) (hLs : L ≤ 140737488355328) (g : Nat) (W : World) (N : Nat) (hIH : SymC L cap g W N) (P A B Q : List Triple) (a m b : Nat) (w : World) (hN : A.length + B.length ≤ N + 1) (hA0 : 0 < A.length) (hB0 : 0 < B.length) (hL : (P ++ (A ++ (B ++ Q))).length = L) (ha : a = P.length) (hm : m = a + A.length) (hb : b = m + B.length) (hA : Sorted' A) (hB : Sorted' B) (hsm : ∀ t ∈ A ++ B, SmallT t) (hS : SR W g (P ++ (A ++ (B ++ Q))) w) (c1 : ¬ A.length = 1) (c2 : ¬ B.length = 1) (hcase : (a + b) / 2 < m) :
    Calls Tryz.prog 195 #[.slice (some ⟨g, 0, none⟩) L cap, .int .i64 a, .int .i64 m, .int .i64 b, cmpV] w fun e w' => e = .returned (.tuple #[]) ∧ ∃ R, R.Perm (A ++ B) ∧ Sorted' R ∧ SR W g (P ++ (R ++ Q)) w' := by
  have hlen := hL
  simp only [List.length_append] at hlen
  have IH := Lib.hid hIH
  obtain ⟨d0, hd0⟩ : ∃ d0, d0 = m - a := ⟨_, rfl⟩
  have w0 : IntKind.i64.wrap ((m : Int) - (a : Int)) = (d0 : Int) := by rw [IntKind.wrap_i64]; omega
  have w00 : ((d0 : Int) == 1) = false := by rw [beq_eq_false_iff_ne]; omega
  obtain ⟨d1, hd1⟩ : ∃ d1, d1 = b - m := ⟨_, rfl⟩
  have w1 : IntKind.i64.wrap ((b : Int) - (m : Int)) = (d1 : Int) := by rw [IntKind.wrap_i64]; omega
  have w11 : ((d1 : Int) == 1) = false := by rw [beq_eq_false_iff_ne]; omega
  obtain ⟨mid, hmid⟩ : ∃ mid, mid = (a + b) / 2 := ⟨_, rfl⟩
  have hq : ((a : Int) + (b : Int)) / 2 = (mid : Int) := by omega
  obtain ⟨n, hn⟩ : ∃ n, n = mid + m := ⟨_, rfl⟩
  have wn : IntKind.i64.wrap ((mid : Int) + (m : Int)) = (n : Int) := by rw [IntKind.wrap_i64]; omega
  obtain ⟨p, hp⟩ : ∃ p, p + 1 = n := ⟨n - 1, by omega⟩
  have wp : IntKind.i64.wrap ((n : Int) - 1) = (p : Int) := by rw [IntKind.wrap_i64]; omega
  rw [← hmid] at hcase
  obtain ⟨s0, hs0⟩ : ∃ s0, s0 + b = n := ⟨n - b, by omega⟩
  have HSR : Hid ((mid < m ∧ s0 + b = n ∧ mid = mid) ∨ (m ≤ mid ∧ s0 = a ∧ mid = m)) := Lib.hid (.inl ⟨hcase, hs0, rfl⟩)
  have hdm : decide (mid < m) = true := decide_eq_true hcase
  have ws : IntKind.i64.wrap ((n : Int) - (b : Int)) = (s0 : Int) := by rw [IntKind.wrap_i64]; omega
  have hbds : a ≤ s0 ∧ s0 ≤ mid ∧ mid ≤ m ∧ s0 ≤ n := by omega
  have hin : ∀ c, s0 ≤ c → c < mid → m ≤ p - c ∧ p - c < b ∧ a ≤ c ∧ c < m ∧ c ≤ p := fun c h1 h2 => by omega
  clear hs0
  obtain ⟨hb1, hb2, hb3, hb4⟩ := hbds
  have hbL : b ≤ L := by omega
  have ham : a < m := by omega
  have hmb : m < b := by omega
  have hamid : a < mid := by omega
  have hmidb : mid < b := by omega
  have HIn := Lib.hid hin
  have HA := Lib.hid (show a = P.length ∧ m = P.length + A.length ∧ b = m + B.length ∧ mid = (a + b) / 2 ∧ n = mid + m ∧ p + 1 = n ∧ A.length + B.length ≤ N + 1 from ⟨ha, by omega, hb, hmid, hn, hp, hN⟩)
  have HAs := Lib.hid hA
  have HBs := Lib.hid hB
  have HSm := Lib.hid hsm
  have HS0 := Lib.hid hS
  have HL := Lib.hid hL
  clear hin hS hL hlen ha hb hA hB hsm hm hd0 hd1 hmid hn hp c1 c2 hA0 hB0 hN hIH
  unfold cmpV at *
  go_enter Tryz.func195, Tryz.ntmps195
  go_wp2
  go_loopw [20, 21] (fun vi vj wr => ∃ i j : Nat, vi = .int .i64 i ∧ vj = .int .i64 j ∧ s0 ≤ i ∧ i ≤ j ∧ j ≤ mid ∧ Hid ((i = s0 ∨ ∃ u v, A[i - 1 - a]? = some u ∧ B[n - i - m]? = some v ∧ ¬ ltT v u) ∧ (j = mid ∨ ∃ u v, A[j - a]? = some u ∧ B[p - j - m]? = some v ∧ ltT v u) ∧ SR W g (P ++ (A ++ (B ++ Q))) wr)) (fun vi vj _ => (intOf vj).toNat - (intOf vi).toNat)
  case atStart => exact ⟨s0, mid, rfl, rfl, by omega, by omega, by omega, Lib.hid ⟨.inl rfl, .inl rfl, HS0.out⟩⟩
  case round =>
  obtain ⟨i, j, rfl, rfl, hmi, hij, hjb, HR⟩ := hrel
  clear HS0 w0 w00 w1 w11 hq wn ws
  by_cases hlt : i < j
  · have hd : decide (i < j) = true := decide_eq_true hlt
    obtain ⟨h, hh⟩ : ∃ h, h = (i + j) / 2 := ⟨_, rfl⟩
    have hq : ((i : Int) + (j : Int)) / 2 = (h : Int) := by omega
    have hih : i ≤ h := by omega
    have hhj : h < j := by omega
    clear hh
    obtain ⟨i1, i2, i3, i4, i5⟩ := HIn.out h (by omega) (by omega)
    obtain ⟨pc, hpc⟩ : ∃ pc, pc = p - h := ⟨_, rfl⟩
    have wpc : IntKind.i64.wrap ((p : Int) - (h : Int)) = (pc : Int) := by rw [IntKind.wrap_i64]; omega
    have hhb : (h : Int) < (L : Int) := by omega
    have hab : (pc : Int) < (L : Int) := by omega
    have hAl : h - a < A.length := by have h1 := HA.out.1; have h2 := HA.out.2.1; omega
    have hBl : pc - m < B.length := by have h1 := HA.out.2.2.1; omega
    obtain ⟨x, hu⟩ : ∃ x, A[h - a]? = some x := ⟨_, List.getElem?_eq_getElem hAl⟩
    obtain ⟨y, hv⟩ : ∃ y, B[pc - m]? = some y := ⟨_, List.getElem?_eq_getElem hBl⟩
    have hrow : (P ++ (A ++ (B ++ Q)))[h]? = some x := by
      rw [← hu, ← at_A (P := P) (A := A) (B := B) (Q := Q) hAl]
      congr 1
      have := HA.out.1
      omega
    have hrow0 : (P ++ (A ++ (B ++ Q)))[pc]? = some y := by
      rw [← hv, ← at_B (P := P) (A := A) (B := B) (Q := Q) hBl]
      congr 1
      have := HA.out.2.1
      omega
    have hcu := HR.out.2.2.at hrow
    have hcv := HR.out.2.2.at hrow0
    have hgl := hcu.lt
    have HBk : Hid (∀ w2, Below wr.heap.size wr w2 → SR W g (P ++ (A ++ (B ++ Q))) w2) := Lib.hid (fun w2 hb => HR.out.2.2.below hgl hb)
    have HC := Lib.hid (fun w => cmp_calls y x (HSm.out y (List.mem_append_right _ (List.mem_of_getElem? hv))) (HSm.out x (List.mem_append_left _ (List.mem_of_getElem? hu))) w)
    have HLt : Hid (cmpT y x < 0 ↔ ltT y x) := Lib.hid Iff.rfl
    have HU : Hid (A[h - a]? = some x ∧ B[p - h - m]? = some y ∧ B[n - (h + 1) - m]? = some y) := Lib.hid ⟨hu, by rw [← hpc]; exact hv, by rw [← hv]; congr 1; have := HA.out.2.2.2.2.2.1; omega⟩
    have HI := Lib.hid HR.out.1
    have HJ := Lib.hid HR.out.2.1
    obtain ⟨r, hr⟩ : ∃ r, r = cmpT y x := ⟨_, rfl⟩
    rw [← hr] at HC HLt
    clear hr hu hv hrow hrow0 hAl hBl HR hpc
    by_cases hvn : r < 0
    · have hvd : decide (r < 0) = true := decide_eq_true hvn
      have HYL : Hid (ltT y x) := Lib.hid (HLt.out.1 hvn)
      have HJ2 : Hid (h = mid ∨ ∃ u v, A[h - a]? = some u ∧ B[p - h - m]? = some v ∧ ltT v u) := Lib.hid (.inr ⟨x, y, HU.out.1, HU.out.2.1, HYL.out⟩)
      clear hvn HLt HU HYL HJ
      obtain ⟨⟨sk', sx', se'⟩, ⟨pk', px', pe'⟩, ⟨ok', ox', oe'⟩⟩ := y
      obtain ⟨⟨sk, sx, se⟩, ⟨pk, px, pe⟩, ⟨ok, ox, oe⟩⟩ := x
      have y0 := fun p => (hcv.bel p).c0
      have y1 := fun p => (hcv.bel p).c1
      have y2 := fun p => (hcv.bel p).c2
      have y3 := fun p => (hcv.bel p).c3
      have y4 := fun p => (hcv.bel p).c4
      have y5 := fun p => (hcv.bel p).c5
      have y6 := fun p => (hcv.bel p).c6
      have y7 := fun p => (hcv.bel p).c7
      have y8 := fun p => (hcv.bel p).c8
      have x0 := fun p => (hcu.bel p).c0
      have x1 := fun p => (hcu.bel p).c1
      have x2 := fun p => (hcu.bel p).c2
      have x3 := fun p => (hcu.bel p).c3
      have x4 := fun p => (hcu.bel p).c4
      have x5 := fun p => (hcu.bel p).c5
      have x6 := fun p => (hcu.bel p).c6
      have x7 := fun p => (hcu.bel p).c7
      have x8 := fun p => (hcu.bel p).c8
      dsimp only at y0 y1 y2 y3 y4 y5 y6 y7 y8 x0 x1 x2 x3 x4 x5 x6 x7 x8
      unfold Ref5.tripleV at HC
      dsimp only at HC
      go_upto_region 35 with fail
      refine QT.region_all (by kernel_rfl) (by kernel_rfl) ?_
      iterate 11 (go_big_quiet_step (fail))
      go_big_quiet_step (exact QT.Bel.call _ (HC.out _))
      iterate 2 (go_big_quiet_step (fail))
      refine wpQuiet_nil ?_
      intro w2 hw'
      obtain ⟨⟨_, hb⟩, rfl⟩ := hw'
      have HS2 := Lib.hid (HBk.out w2 hb)
      clear hb y0 y1 y2 y3 y4 y5 y6 y7 y8 x0 x1 x2 x3 x4 x5 x6 x7 x8 hcu hcv
      go_wp2
      go_roundw
      case rel => exact ⟨i, h, rfl, by go_num, hmi, by omega, by omega, Lib.hid ⟨HI.out, HJ2.out, HS2.out⟩⟩
      case measure => simp [intOf]; omega
    · have hvd : decide (r < 0) = false := decide_eq_false hvn
      have HYL : Hid (¬ ltT y x) := Lib.hid (fun hl => hvn (HLt.out.2 hl))
      have HI2 : Hid (h + 1 = s0 ∨ ∃ u v, A[h + 1 - 1 - a]? = some u ∧ B[n - (h + 1) - m]? = some v ∧ ¬ ltT v u) := Lib.hid (.inr ⟨x, y, by rw [show h + 1 - 1 - a = h - a by omega]; exact HU.out.1, HU.out.2.2, HYL.out⟩)
      clear hvn HLt HU HYL HI
      obtain ⟨⟨sk', sx', se'⟩, ⟨pk', px', pe'⟩, ⟨ok', ox', oe'⟩⟩ := y
      obtain ⟨⟨sk, sx, se⟩, ⟨pk, px, pe⟩, ⟨ok, ox, oe⟩⟩ := x
      have y0 := fun p => (hcv.bel p).c0
      have y1 := fun p => (hcv.bel p).c1
      have y2 := fun p => (hcv.bel p).c2
      have y3 := fun p => (hcv.bel p).c3
      have y4 := fun p => (hcv.bel p).c4
      have y5 := fun p => (hcv.bel p).c5
      have y6 := fun p => (hcv.bel p).c6
      have y7 := fun p => (hcv.bel p).c7
      have y8 := fun p => (hcv.bel p).c8
      have x0 := fun p => (hcu.bel p).c0
      have x1 := fun p => (hcu.bel p).c1
      have x2 := fun p => (hcu.bel p).c2
      have x3 := fun p => (hcu.bel p).c3
      have x4 := fun p => (hcu.bel p).c4
      have x5 := fun p => (hcu.bel p).c5
      have x6 := fun p => (hcu.bel p).c6
      have x7 := fun p => (hcu.bel p).c7
      have x8 := fun p => (hcu.bel p).c8
      dsimp only at y0 y1 y2 y3 y4 y5 y6 y7 y8 x0 x1 x2 x3 x4 x5 x6 x7 x8
      unfold Ref5.tripleV at HC
      dsimp only at HC
      go_upto_region 35 with fail
      refine QT.region_all (by kernel_rfl) (by kernel_rfl) ?_
      iterate 11 (go_big_quiet_step (fail))
      go_big_quiet_step (exact QT.Bel.call _ (HC.out _))
      iterate 2 (go_big_quiet_step (fail))
      refine wpQuiet_nil ?_
      intro w2 hw'
      obtain ⟨⟨_, hb⟩, rfl⟩ := hw'
      have HS2 := Lib.hid (HBk.out w2 hb)
      clear hb y0 y1 y2 y3 y4 y5 y6 y7 y8 x0 x1 x2 x3 x4 x5 x6 x7 x8 hcu hcv
      go_wp2
      go_roundw
      case rel => exact ⟨h + 1, j, by go_num, rfl, by omega, by omega, hjb, Lib.hid ⟨HI2.out, HJ.out, HS2.out⟩⟩
      case measure => simp [intOf]; omega
  · have hd : decide (i < j) = false := decide_eq_false hlt
    obtain rfl : i = j := by omega
    obtain ⟨en, hen⟩ : ∃ en, en = n - i := ⟨_, rfl⟩
    have wen : IntKind.i64.wrap ((n : Int) - (i : Int)) = (en : Int) := by rw [IntKind.wrap_i64]; have := HA.out.2.2.2.2.1; omega
    have hbnd : a ≤ i ∧ i ≤ m ∧ m ≤ en ∧ en ≤ b ∧ mid + m = i + en ∧ i ≤ mid ∧ mid ≤ en := by
      have h1 := HA.out.2.2.2.2.1
      have h2 := HA.out.2.2.2.1
      rcases HSR.out with ⟨h3, h4, h5⟩ | ⟨h3, h4, h5⟩ <;> omega
    obtain ⟨n1, n2, n3, n4, n5, n6, n7⟩ := hbnd
    obtain ⟨A1, hA1⟩ : ∃ A1, A1 = A.take (i - a) := ⟨_, rfl⟩
    obtain ⟨A2, hA2⟩ : ∃ A2, A2 = A.drop (i - a) := ⟨_, rfl⟩
    obtain ⟨B1, hB1⟩ : ∃ B1, B1 = B.take (en - m) := ⟨_, rfl⟩
    obtain ⟨B2, hB2⟩ : ∃ B2, B2 = B.drop (en - m) := ⟨_, rfl⟩
    have HLn : Hid (A1.length = i - a ∧ A2.length = m - i ∧ B1.length = en - m ∧ B2.length = b - en) := Lib.hid (by
      have h1 := HA.out.1; have h2 := HA.out.2.1; have h3 := HA.out.2.2.1
      rw [hA1, hA2, hB1, hB2, List.length_take, List.length_drop, List.length_take, List.length_drop]
      omega)
    have HAB : Hid (A = A1 ++ A2 ∧ B = B1 ++ B2) := Lib.hid ⟨by rw [hA1, hA2, List.take_append_drop], by rw [hB1, hB2, List.take_append_drop]⟩
    have HHalf : Hid (∀ R1 R2, R1.Perm (A1 ++ B1) → R2.Perm (A2 ++ B2) → Sorted' R1 → Sorted' R2 → (R1 ++ R2).Perm (A ++ B) ∧ Sorted' (R1 ++ R2)) := Lib.hid (by
      intro R1 R2 p1 p2 s1 s2
      have h1 := HA.out.1; have h2 := HA.out.2.1; have h3 := HA.out.2.2.1; have h4 := HA.out.2.2.2.2.1; have h5 := HA.out.2.2.2.2.2.1
      refine halves (s := i - a) (e := en - m) HAs.out HBs.out ?_ ?_ (by rw [← hA1, ← hB1]; exact p1) (by rw [← hA2, ← hB2]; exact p2) s1 s2
      · rcases HR.out.1 with h | ⟨u, v, hu, hv, hl⟩
        · rcases HSR.out with ⟨h6, h7, h8⟩ | ⟨h6, h7, h8⟩
          · right; left; omega
          · left; omega
        · right; right
          exact ⟨u, v, by rw [← hu]; congr 1; omega, by rw [← hv]; congr 1; omega, hl⟩
      · rcases HR.out.2.1 with h | ⟨u, v, hu, hv, hl⟩
        · rcases HSR.out with ⟨h6, h7, h8⟩ | ⟨h6, h7, h8⟩
          · right; left; omega
          · left; omega
        · right; right
          exact ⟨v, u, by rw [← hv]; congr 1; omega, hu, ltT_asymm hl⟩)
    have HSm2 : Hid ((∀ t ∈ A1 ++ B1, SmallT t) ∧ (∀ t ∈ A2 ++ B2, SmallT t)) := Lib.hid (by
      have h := HSm.out
      rw [HAB.out.1, HAB.out.2] at h
      refine ⟨fun t ht => h t ?_, fun t ht => h t ?_⟩
      · rcases List.mem_append.1 ht with ht | ht <;> simp [ht]
      · rcases List.mem_append.1 ht with ht | ht <;> simp [ht])
    have HSt : Hid (Sorted' A1 ∧ Sorted' A2 ∧ Sorted' B1 ∧ Sorted' B2) := Lib.hid (by
      have hA := HAs.out
      have hB := HBs.out
      rw [HAB.out.1] at hA
      rw [HAB.out.2] at hB
      exact ⟨(List.pairwise_append.1 hA).1, (List.pairwise_append.1 hA).2.1, (List.pairwise_append.1 hB).1, (List.pairwise_append.1 hB).2.1⟩)
    have HRow : Hid (SR W g (P ++ (A1 ++ (A2 ++ (B1 ++ (B2 ++ Q))))) wr ∧ P.length + (A1.length + (A2.length + (B1.length + (B2.length + Q.length)))) = L) := Lib.hid (by
      have h := HR.out.2.2
      have hl := HL.out
      rw [HAB.out.1, HAB.out.2] at h hl
      refine ⟨by simpa [List.append_assoc] using h, ?_⟩
      simp only [List.length_append] at hl
      omega)
    clear HR HAs HBs HSm HL hA1 hA2 hB1 hB2 hen
    have HTot := Lib.hid HRow.out.2
    by_cases e1 : i < m
    · have x1 : decide (i < m) = true := decide_eq_true e1
      by_cases e2 : m < en
      · have x2 : decide (m < en) = true := decide_eq_true e2
        have HC := Lib.hid (rotate_calls (.func (.func 119) #[] #[]) (P ++ A1) A2 B1 (B2 ++ Q) (by have := HLn.out.2.1; omega) (by have := HLn.out.2.2.1; omega) L (by have := HRow.out.2; simp only [List.length_append]; omega) hLs i m en cap (by have h1 := HLn.out.1; have h2 := HA.out.1; rw [List.length_append]; omega) (by have := HLn.out.2.1; omega) (by have := HLn.out.2.2.1; omega) g W wr (by have := HRow.out.1; rw [List.append_assoc]; exact this))
        go_wp2_with fail
        refine HC.out.mono ?_
        rintro e w7 ⟨rfl, hS2⟩
        have HRow2 : Hid (SR W g (P ++ (A1 ++ (B1 ++ (A2 ++ (B2 ++ Q))))) w7) := Lib.hid (by rw [← List.append_assoc]; exact hS2)
        clear hS2 HRow HC
        by_cases e3 : a < i
        · have x3 : decide (a < i) = true := decide_eq_true e3
          by_cases e4 : i < mid
          · have x4 : decide (i < mid) = true := decide_eq_true e4
            have HC := Lib.hid (IH.out P A1 B1 (A2 ++ (B2 ++ Q)) a i mid w7 (by have h1 := HLn.out.1; have h2 := HLn.out.2.2.1; have h3 := HA.out; omega) (by have := HLn.out.1; omega) (by have := HLn.out.2.2.1; omega) (by have := HTot.out; simp only [List.length_append]; omega) HA.out.1 (by have := HLn.out.1; omega) (by have h2 := HLn.out.2.2.1; omega) HSt.out.1 HSt.out.2.2.1 HSm2.out.1 HRow2.out)
            go_wp2_with fail
            refine HC.out.mono ?_
            rintro e w8 ⟨rfl, R1, hp1, hs1, hS2⟩
            have HR1 := Lib.hid (show R1.Perm (A1 ++ B1) ∧ Sorted' R1 ∧ SR W g (P ++ (R1 ++ (A2 ++ (B2 ++ Q)))) w8 from ⟨hp1, hs1, hS2⟩)
            clear hp1 hs1 hS2 HRow2 HC
            have HL1 : Hid (R1.length = mid - a) := Lib.hid (by rw [HR1.out.1.length_eq, List.length_append, HLn.out.1, HLn.out.2.2.1]; omega)
            by_cases e5 : mid < en
            · have x5 : decide (mid < en) = true := decide_eq_true e5
              by_cases e6 : en < b
              · have x6 : decide (en < b) = true := decide_eq_true e6
                have HC := Lib.hid (IH.out (P ++ R1) A2 B2 Q mid en b w8 (by have h1 := HLn.out.2.1; have h2 := HLn.out.2.2.2; have h3 := HA.out; omega) (by have := HLn.out.2.1; omega) (by have := HLn.out.2.2.2; omega) (by have h0 := HTot.out; have h1 := HL1.out; have h2 := HLn.out; simp only [List.length_append]; omega) (by have h1 := HL1.out; have h2 := HA.out.1; rw [List.length_append]; omega) (by have := HLn.out.2.1; omega) (by have h2 := HLn.out.2.2.2; omega) HSt.out.2.1 HSt.out.2.2.2 HSm2.out.2 (by rw [List.append_assoc]; exact HR1.out.2.2))
                go_wp2_with fail
                refine HC.out.mono ?_
                rintro e w9 ⟨rfl, R2, hp2, hs2, hS2⟩
                have HEnd : Hid (∃ R, R.Perm (A ++ B) ∧ Sorted' R ∧ SR W g (P ++ (R ++ Q)) w9) := Lib.hid ⟨R1 ++ R2, (HHalf.out R1 R2 HR1.out.1 hp2 HR1.out.2.1 hs2).1, (HHalf.out R1 R2 HR1.out.1 hp2 HR1.out.2.1 hs2).2, by simpa [List.append_assoc] using hS2⟩
                clear hp2 hs2 hS2
                go_wp2
                go_end0
                exact ⟨rfl, HEnd.out⟩
              · have x6 : decide (en < b) = false := decide_eq_false e6
                have HEnd : Hid (∃ R, R.Perm (A ++ B) ∧ Sorted' R ∧ SR W g (P ++ (R ++ Q)) w8) := Lib.hid (by
                  have h0 : B2 = [] := List.eq_nil_of_length_eq_zero (by have := HLn.out.2.2.2; omega)
                  have h := HHalf.out R1 A2 HR1.out.1 (by rw [h0, List.append_nil]) HR1.out.2.1 HSt.out.2.1
                  have h2 := HR1.out.2.2
                  rw [h0] at h2
                  exact ⟨_, h.1, h.2, by simpa [List.append_assoc] using h2⟩)
                go_wp2
                go_end0
                exact ⟨rfl, HEnd.out⟩
            · have x5 : decide (mid < en) = false := decide_eq_false e5
              have HEnd : Hid (∃ R, R.Perm (A ++ B) ∧ Sorted' R ∧ SR W g (P ++ (R ++ Q)) w8) := Lib.hid (by
                have h0 : A2 = [] := List.eq_nil_of_length_eq_zero (by have := HLn.out.2.1; omega)
                have h := HHalf.out R1 B2 HR1.out.1 (by rw [h0, List.nil_append]) HR1.out.2.1 HSt.out.2.2.2
                have h2 := HR1.out.2.2
                rw [h0] at h2
                exact ⟨_, h.1, h.2, by simpa [List.append_assoc] using h2⟩)
              go_wp2
              go_end0
              exact ⟨rfl, HEnd.out⟩
          · have x4 : decide (i < mid) = false := decide_eq_false e4
            have HR1 : Hid (A1.Perm (A1 ++ B1) ∧ Sorted' A1 ∧ SR W g (P ++ (A1 ++ (A2 ++ (B2 ++ Q)))) w7) := Lib.hid (by
              have : B1 = [] := List.eq_nil_of_length_eq_zero (by have := HLn.out.2.2.1; omega)
              have h := HRow2.out
              rw [this] at h ⊢
              exact ⟨by rw [List.append_nil], HSt.out.1, h⟩)
            clear HRow2
            obtain ⟨R1, hR1⟩ : ∃ R1, R1 = A1 := ⟨_, rfl⟩
            have HR1 : Hid (R1.Perm (A1 ++ B1) ∧ Sorted' R1 ∧ SR W g (P ++ (R1 ++ (A2 ++ (B2 ++ Q)))) w7) := Lib.hid (by rw [hR1]; exact HR1.out)
            clear hR1
            have HL1 : Hid (R1.length = mid - a) := Lib.hid (by rw [HR1.out.1.length_eq, List.length_append, HLn.out.1, HLn.out.2.2.1]; omega)
            by_cases e5 : mid < en
            · have x5 : decide (mid < en) = true := decide_eq_true e5
              by_cases e6 : en < b
              · have x6 : decide (en < b) = true := decide_eq_true e6
                have HC := Lib.hid (IH.out (P ++ R1) A2 B2 Q mid en b w7 (by have h1 := HLn.out.2.1; have h2 := HLn.out.2.2.2; have h3 := HA.out; omega) (by have := HLn.out.2.1; omega) (by have := HLn.out.2.2.2; omega) (by have h0 := HTot.out; have h1 := HL1.out; have h2 := HLn.out; simp only [List.length_append]; omega) (by have h1 := HL1.out; have h2 := HA.out.1; rw [List.length_append]; omega) (by have := HLn.out.2.1; omega) (by have h2 := HLn.out.2.2.2; omega) HSt.out.2.1 HSt.out.2.2.2 HSm2.out.2 (by rw [List.append_assoc]; exact HR1.out.2.2))
                go_wp2_with fail
                refine HC.out.mono ?_
                rintro e w9 ⟨rfl, R2, hp2, hs2, hS2⟩
                have HEnd : Hid (∃ R, R.Perm (A ++ B) ∧ Sorted' R ∧ SR W g (P ++ (R ++ Q)) w9) := Lib.hid ⟨R1 ++ R2, (HHalf.out R1 R2 HR1.out.1 hp2 HR1.out.2.1 hs2).1, (HHalf.out R1 R2 HR1.out.1 hp2 HR1.out.2.1 hs2).2, by simpa [List.append_assoc] using hS2⟩
                clear hp2 hs2 hS2
                go_wp2
                go_end0
                exact ⟨rfl, HEnd.out⟩
              · have x6 : decide (en < b) = false := decide_eq_false e6
                have HEnd : Hid (∃ R, R.Perm (A ++ B) ∧ Sorted' R ∧ SR W g (P ++ (R ++ Q)) w7) := Lib.hid (by
                  have h0 : B2 = [] := List.eq_nil_of_length_eq_zero (by have := HLn.out.2.2.2; omega)
                  have h := HHalf.out R1 A2 HR1.out.1 (by rw [h0, List.append_nil]) HR1.out.2.1 HSt.out.2.1
                  have h2 := HR1.out.2.2
                  rw [h0] at h2
                  exact ⟨_, h.1, h.2, by simpa [List.append_assoc] using h2⟩)
                go_wp2
                go_end0
                exact ⟨rfl, HEnd.out⟩
            · have x5 : decide (mid < en) = false := decide_eq_false e5
              have HEnd : Hid (∃ R, R.Perm (A ++ B) ∧ Sorted' R ∧ SR W g (P ++ (R ++ Q)) w7) := Lib.hid (by
                have h0 : A2 = [] := List.eq_nil_of_length_eq_zero (by have := HLn.out.2.1; omega)
                have h := HHalf.out R1 B2 HR1.out.1 (by rw [h0, List.nil_append]) HR1.out.2.1 HSt.out.2.2.2
                have h2 := HR1.out.2.2
                rw [h0] at h2
                exact ⟨_, h.1, h.2, by simpa [List.append_assoc] using h2⟩)
              go_wp2
              go_end0
              exact ⟨rfl, HEnd.out⟩
        · have x3 : decide (a < i) = false := decide_eq_false e3
          have HR1 : Hid (B1.Perm (A1 ++ B1) ∧ Sorted' B1 ∧ SR W g (P ++ (B1 ++ (A2 ++ (B2 ++ Q)))) w7) := Lib.hid (by
            have : A1 = [] := List.eq_nil_of_length_eq_zero (by have := HLn.out.1; omega)
            have h := HRow2.out
            rw [this] at h ⊢
            exact ⟨List.Perm.refl _, HSt.out.2.2.1, h⟩)
          clear HRow2
          obtain ⟨R1, hR1⟩ : ∃ R1, R1 = B1 := ⟨_, rfl⟩
          have HR1 : Hid (R1.Perm (A1 ++ B1) ∧ Sorted' R1 ∧ SR W g (P ++ (R1 ++ (A2 ++ (B2 ++ Q)))) w7) := Lib.hid (by rw [hR1]; exact HR1.out)
          clear hR1
          have HL1 : Hid (R1.length = mid - a) := Lib.hid (by rw [HR1.out.1.length_eq, List.length_append, HLn.out.1, HLn.out.2.2.1]; omega)
          by_cases e5 : mid < en
          · have x5 : decide (mid < en) = true := decide_eq_true e5
            by_cases e6 : en < b
            · have x6 : decide (en < b) = true := decide_eq_true e6
              have HC := Lib.hid (IH.out (P ++ R1) A2 B2 Q mid en b w7 (by have h1 := HLn.out.2.1; have h2 := HLn.out.2.2.2; have h3 := HA.out; omega) (by have := HLn.out.2.1; omega) (by have := HLn.out.2.2.2; omega) (by have h0 := HTot.out; have h1 := HL1.out; have h2 := HLn.out; simp only [List.length_append]; omega) (by have h1 := HL1.out; have h2 := HA.out.1; rw [List.length_append]; omega) (by have := HLn.out.2.1; omega) (by have h2 := HLn.out.2.2.2; omega) HSt.out.2.1 HSt.out.2.2.2 HSm2.out.2 (by rw [List.append_assoc]; exact HR1.out.2.2))
              go_wp2_with fail
              refine HC.out.mono ?_
              rintro e w9 ⟨rfl, R2, hp2, hs2, hS2⟩
              have HEnd : Hid (∃ R, R.Perm (A ++ B) ∧ Sorted' R ∧ SR W g (P ++ (R ++ Q)) w9) := Lib.hid ⟨R1 ++ R2, (HHalf.out R1 R2 HR1.out.1 hp2 HR1.out.2.1 hs2).1, (HHalf.out R1 R2 HR1.out.1 hp2 HR1.out.2.1 hs2).2, by simpa [List.append_assoc] using hS2⟩
              clear hp2 hs2 hS2
              go_wp2
              go_end0
              exact ⟨rfl, HEnd.out⟩
            · have x6 : decide (en < b) = false := decide_eq_false e6
              have HEnd : Hid (∃ R, R.Perm (A ++ B) ∧ Sorted' R ∧ SR W g (P ++ (R ++ Q)) w7) := Lib.hid (by
                have h0 : B2 = [] := List.eq_nil_of_length_eq_zero (by have := HLn.out.2.2.2; omega)
                have h := HHalf.out R1 A2 HR1.out.1 (by rw [h0, List.append_nil]) HR1.out.2.1 HSt.out.2.1
                have h2 := HR1.out.2.2
                rw [h0] at h2
                exact ⟨_, h.1, h.2, by simpa [List.append_assoc] using h2⟩)
              go_wp2
              go_end0
              exact ⟨rfl, HEnd.out⟩
          · have x5 : decide (mid < en) = false := decide_eq_false e5
            have HEnd : Hid (∃ R, R.Perm (A ++ B) ∧ Sorted' R ∧ SR W g (P ++ (R ++ Q)) w7) := Lib.hid (by
              have h0 : A2 = [] := List.eq_nil_of_length_eq_zero (by have := HLn.out.2.1; omega)
              have h := HHalf.out R1 B2 HR1.out.1 (by rw [h0, List.nil_append]) HR1.out.2.1 HSt.out.2.2.2
              have h2 := HR1.out.2.2
              rw [h0] at h2
              exact ⟨_, h.1, h.2, by simpa [List.append_assoc] using h2⟩)
            go_wp2
            go_end0
            exact ⟨rfl, HEnd.out⟩
      · have x2 : decide (m < en) = false := decide_eq_false e2
        have HRow2 : Hid (SR W g (P ++ (A1 ++ (B1 ++ (A2 ++ (B2 ++ Q))))) wr) := Lib.hid (by
          have : B1 = [] := List.eq_nil_of_length_eq_zero (by have := HLn.out.2.2.1; omega)
          have h := HRow.out.1
          rw [this] at h ⊢
          exact h)
        clear HRow
        by_cases e3 : a < i
        · have x3 : decide (a < i) = true := decide_eq_true e3
          by_cases e4 : i < mid
          · have x4 : decide (i < mid) = true := decide_eq_true e4
            have HC := Lib.hid (IH.out P A1 B1 (A2 ++ (B2 ++ Q)) a i mid wr (by have h1 := HLn.out.1; have h2 := HLn.out.2.2.1; have h3 := HA.out; omega) (by have := HLn.out.1; omega) (by have := HLn.out.2.2.1; omega) (by have := HTot.out; simp only [List.length_append]; omega) HA.out.1 (by have := HLn.out.1; omega) (by have h2 := HLn.out.2.2.1; omega) HSt.out.1 HSt.out.2.2.1 HSm2.out.1 HRow2.out)
            go_wp2_with fail
            refine HC.out.mono ?_
            rintro e w8 ⟨rfl, R1, hp1, hs1, hS2⟩
            have HR1 := Lib.hid (show R1.Perm (A1 ++ B1) ∧ Sorted' R1 ∧ SR W g (P ++ (R1 ++ (A2 ++ (B2 ++ Q)))) w8 from ⟨hp1, hs1, hS2⟩)
            clear hp1 hs1 hS2 HRow2 HC
            have HL1 : Hid (R1.length = mid - a) := Lib.hid (by rw [HR1.out.1.length_eq, List.length_append, HLn.out.1, HLn.out.2.2.1]; omega)
            by_cases e5 : mid < en
            · have x5 : decide (mid < en) = true := decide_eq_true e5
              by_cases e6 : en < b
              · have x6 : decide (en < b) = true := decide_eq_true e6
                have HC := Lib.hid (IH.out (P ++ R1) A2 B2 Q mid en b w8 (by have h1 := HLn.out.2.1; have h2 := HLn.out.2.2.2; have h3 := HA.out; omega) (by have := HLn.out.2.1; omega) (by have := HLn.out.2.2.2; omega) (by have h0 := HTot.out; have h1 := HL1.out; have h2 := HLn.out; simp only [List.length_append]; omega) (by have h1 := HL1.out; have h2 := HA.out.1; rw [List.length_append]; omega) (by have := HLn.out.2.1; omega) (by have h2 := HLn.out.2.2.2; omega) HSt.out.2.1 HSt.out.2.2.2 HSm2.out.2 (by rw [List.append_assoc]; exact HR1.out.2.2))
                go_wp2_with fail
                refine HC.out.mono ?_
                rintro e w9 ⟨rfl, R2, hp2, hs2, hS2⟩
                have HEnd : Hid (∃ R, R.Perm (A ++ B) ∧ Sorted' R ∧ SR W g (P ++ (R ++ Q)) w9) := Lib.hid ⟨R1 ++ R2, (HHalf.out R1 R2 HR1.out.1 hp2 HR1.out.2.1 hs2).1, (HHalf.out R1 R2 HR1.out.1 hp2 HR1.out.2.1 hs2).2, by simpa [List.append_assoc] using hS2⟩
                clear hp2 hs2 hS2
                go_wp2
                go_end0
                exact ⟨rfl, HEnd.out⟩
              · have x6 : decide (en < b) = false := decide_eq_false e6
                have HEnd : Hid (∃ R, R.Perm (A ++ B) ∧ Sorted' R ∧ SR W g (P ++ (R ++ Q)) w8) := Lib.hid (by
                  have h0 : B2 = [] := List.eq_nil_of_length_eq_zero (by have := HLn.out.2.2.2; omega)
                  have h := HHalf.out R1 A2 HR1.out.1 (by rw [h0, List.append_nil]) HR1.out.2.1 HSt.out.2.1
                  have h2 := HR1.out.2.2
                  rw [h0] at h2
                  exact ⟨_, h.1, h.2, by simpa [List.append_assoc] using h2⟩)
                go_wp2
                go_end0
                exact ⟨rfl, HEnd.out⟩
            · have x5 : decide (mid < en) = false := decide_eq_false e5
              have HEnd : Hid (∃ R, R.Perm (A ++ B) ∧ Sorted' R ∧ SR W g (P ++ (R ++ Q)) w8) := Lib.hid (by
                have h0 : A2 = [] := List.eq_nil_of_length_eq_zero (by have := HLn.out.2.1; omega)
                have h := HHalf.out R1 B2 HR1.out.1 (by rw [h0, List.nil_append]) HR1.out.2.1 HSt.out.2.2.2
                have h2 := HR1.out.2.2
                rw [h0] at h2
                exact ⟨_, h.1, h.2, by simpa [List.append_assoc] using h2⟩)
              go_wp2
              go_end0
              exact ⟨rfl, HEnd.out⟩
          · have x4 : decide (i < mid) = false := decide_eq_false e4
            have HR1 : Hid (A1.Perm (A1 ++ B1) ∧ Sorted' A1 ∧ SR W g (P ++ (A1 ++ (A2 ++ (B2 ++ Q)))) wr) := Lib.hid (by
              have : B1 = [] := List.eq_nil_of_length_eq_zero (by have := HLn.out.2.2.1; omega)
              have h := HRow2.out
              rw [this] at h ⊢
              exact ⟨by rw [List.append_nil], HSt.out.1, h⟩)
            clear HRow2
            obtain ⟨R1, hR1⟩ : ∃ R1, R1 = A1 := ⟨_, rfl⟩
            have HR1 : Hid (R1.Perm (A1 ++ B1) ∧ Sorted' R1 ∧ SR W g (P ++ (R1 ++ (A2 ++ (B2 ++ Q)))) wr) := Lib.hid (by rw [hR1]; exact HR1.out)
            clear hR1
            have HL1 : Hid (R1.length = mid - a) := Lib.hid (by rw [HR1.out.1.length_eq, List.length_append, HLn.out.1, HLn.out.2.2.1]; omega)
            by_cases e5 : mid < en
            · have x5 : decide (mid < en) = true := decide_eq_true e5
              by_cases e6 : en < b
              · have x6 : decide (en < b) = true := decide_eq_true e6
                have HC := Lib.hid (IH.out (P ++ R1) A2 B2 Q mid en b wr (by have h1 := HLn.out.2.1; have h2 := HLn.out.2.2.2; have h3 := HA.out; omega) (by have := HLn.out.2.1; omega) (by have := HLn.out.2.2.2; omega) (by have h0 := HTot.out; have h1 := HL1.out; have h2 := HLn.out; simp only [List.length_append]; omega) (by have h1 := HL1.out; have h2 := HA.out.1; rw [List.length_append]; omega) (by have := HLn.out.2.1; omega) (by have h2 := HLn.out.2.2.2; omega) HSt.out.2.1 HSt.out.2.2.2 HSm2.out.2 (by rw [List.append_assoc]; exact HR1.out.2.2))
                go_wp2_with fail
                refine HC.out.mono ?_
                rintro e w9 ⟨rfl, R2, hp2, hs2, hS2⟩
                have HEnd : Hid (∃ R, R.Perm (A ++ B) ∧ Sorted' R ∧ SR W g (P ++ (R ++ Q)) w9) := Lib.hid ⟨R1 ++ R2, (HHalf.out R1 R2 HR1.out.1 hp2 HR1.out.2.1 hs2).1, (HHalf.out R1 R2 HR1.out.1 hp2 HR1.out.2.1 hs2).2, by simpa [List.append_assoc] using hS2⟩
                clear hp2 hs2 hS2
                go_wp2
                go_end0
                exact ⟨rfl, HEnd.out⟩
              · have x6 : decide (en < b) = false := decide_eq_false e6
                have HEnd : Hid (∃ R, R.Perm (A ++ B) ∧ Sorted' R ∧ SR W g (P ++ (R ++ Q)) wr) := Lib.hid (by
                  have h0 : B2 = [] := List.eq_nil_of_length_eq_zero (by have := HLn.out.2.2.2; omega)
                  have h := HHalf.out R1 A2 HR1.out.1 (by rw [h0, List.append_nil]) HR1.out.2.1 HSt.out.2.1
                  have h2 := HR1.out.2.2
                  rw [h0] at h2
                  exact ⟨_, h.1, h.2, by simpa [List.append_assoc] using h2⟩)
                go_wp2
                go_end0
                exact ⟨rfl, HEnd.out⟩
            · have x5 : decide (mid < en) = false := decide_eq_false e5
              have HEnd : Hid (∃ R, R.Perm (A ++ B) ∧ Sorted' R ∧ SR W g (P ++ (R ++ Q)) wr) := Lib.hid (by
                have h0 : A2 = [] := List.eq_nil_of_length_eq_zero (by have := HLn.out.2.1; omega)
                have h := HHalf.out R1 B2 HR1.out.1 (by rw [h0, List.nil_append]) HR1.out.2.1 HSt.out.2.2.2
                have h2 := HR1.out.2.2
                rw [h0] at h2
                exact ⟨_, h.1, h.2, by simpa [List.append_assoc] using h2⟩)
              go_wp2
              go_end0
              exact ⟨rfl, HEnd.out⟩
        · have x3 : decide (a < i) = false := decide_eq_false e3
          have HR1 : Hid (B1.Perm (A1 ++ B1) ∧ Sorted' B1 ∧ SR W g (P ++ (B1 ++ (A2 ++ (B2 ++ Q)))) wr) := Lib.hid (by
            have : A1 = [] := List.eq_nil_of_length_eq_zero (by have := HLn.out.1; omega)
            have h := HRow2.out
            rw [this] at h ⊢
            exact ⟨List.Perm.refl _, HSt.out.2.2.1, h⟩)
          clear HRow2
          obtain ⟨R1, hR1⟩ : ∃ R1, R1 = B1 := ⟨_, rfl⟩
          have HR1 : Hid (R1.Perm (A1 ++ B1) ∧ Sorted' R1 ∧ SR W g (P ++ (R1 ++ (A2 ++ (B2 ++ Q)))) wr) := Lib.hid (by rw [hR1]; exact HR1.out)
          clear hR1
          have HL1 : Hid (R1.length = mid - a) := Lib.hid (by rw [HR1.out.1.length_eq, List.length_append, HLn.out.1, HLn.out.2.2.1]; omega)
          by_cases e5 : mid < en
          · have x5 : decide (mid < en) = true := decide_eq_true e5
            by_cases e6 : en < b
            · have x6 : decide (en < b) = true := decide_eq_true e6
              have HC := Lib.hid (IH.out (P ++ R1) A2 B2 Q mid en b wr (by have h1 := HLn.out.2.1; have h2 := HLn.out.2.2.2; have h3 := HA.out; omega) (by have := HLn.out.2.1; omega) (by have := HLn.out.2.2.2; omega) (by have h0 := HTot.out; have h1 := HL1.out; have h2 := HLn.out; simp only [List.length_append]; omega) (by have h1 := HL1.out; have h2 := HA.out.1; rw [List.length_append]; omega) (by have := HLn.out.2.1; omega) (by have h2 := HLn.out.2.2.2; omega) HSt.out.2.1 HSt.out.2.2.2 HSm2.out.2 (by rw [List.append_assoc]; exact HR1.out.2.2))
              go_wp2_with fail
              refine HC.out.mono ?_
              rintro e w9 ⟨rfl, R2, hp2, hs2, hS2⟩
              have HEnd : Hid (∃ R, R.Perm (A ++ B) ∧ Sorted' R ∧ SR W g (P ++ (R ++ Q)) w9) := Lib.hid ⟨R1 ++ R2, (HHalf.out R1 R2 HR1.out.1 hp2 HR1.out.2.1 hs2).1, (HHalf.out R1 R2 HR1.out.1 hp2 HR1.out.2.1 hs2).2, by simpa [List.append_assoc] using hS2⟩
              clear hp2 hs2 hS2
              go_wp2
              go_end0
              exact ⟨rfl, HEnd.out⟩
            · have x6 : decide (en < b) = false := decide_eq_false e6
              have HEnd : Hid (∃ R, R.Perm (A ++ B) ∧ Sorted' R ∧ SR W g (P ++ (R ++ Q)) wr) := Lib.hid (by
                have h0 : B2 = [] := List.eq_nil_of_length_eq_zero (by have := HLn.out.2.2.2; omega)
                have h := HHalf.out R1 A2 HR1.out.1 (by rw [h0, List.append_nil]) HR1.out.2.1 HSt.out.2.1
                have h2 := HR1.out.2.2
                rw [h0] at h2
                exact ⟨_, h.1, h.2, by simpa [List.append_assoc] using h2⟩)
              go_wp2
              go_end0
              exact ⟨rfl, HEnd.out⟩
          · have x5 : decide (mid < en) = false := decide_eq_false e5
            have HEnd : Hid (∃ R, R.Perm (A ++ B) ∧ Sorted' R ∧ SR W g (P ++ (R ++ Q)) wr) := Lib.hid (by
              have h0 : A2 = [] := List.eq_nil_of_length_eq_zero (by have := HLn.out.2.1; omega)
              have h := HHalf.out R1 B2 HR1.out.1 (by rw [h0, List.nil_append]) HR1.out.2.1 HSt.out.2.2.2
              have h2 := HR1.out.2.2
              rw [h0] at h2
              exact ⟨_, h.1, h.2, by simpa [List.append_assoc] using h2⟩)
            go_wp2
            go_end0
            exact ⟨rfl, HEnd.out⟩
    · have x1 : decide (i < m) = false := decide_eq_false e1
      have HRow2 : Hid (SR W g (P ++ (A1 ++ (B1 ++ (A2 ++ (B2 ++ Q))))) wr) := Lib.hid (by
        have : A2 = [] := List.eq_nil_of_length_eq_zero (by have := HLn.out.2.1; omega)
        have h := HRow.out.1
        rw [this] at h ⊢
        exact h)
      clear HRow
      by_cases e3 : a < i
      · have x3 : decide (a < i) = true := decide_eq_true e3
        by_cases e4 : i < mid
        · have x4 : decide (i < mid) = true := decide_eq_true e4
          have HC := Lib.hid (IH.out P A1 B1 (A2 ++ (B2 ++ Q)) a i mid wr (by have h1 := HLn.out.1; have h2 := HLn.out.2.2.1; have h3 := HA.out; omega) (by have := HLn.out.1; omega) (by have := HLn.out.2.2.1; omega) (by have := HTot.out; simp only [List.length_append]; omega) HA.out.1 (by have := HLn.out.1; omega) (by have h2 := HLn.out.2.2.1; omega) HSt.out.1 HSt.out.2.2.1 HSm2.out.1 HRow2.out)
          go_wp2_with fail
          refine HC.out.mono ?_
          rintro e w8 ⟨rfl, R1, hp1, hs1, hS2⟩
          have HR1 := Lib.hid (show R1.Perm (A1 ++ B1) ∧ Sorted' R1 ∧ SR W g (P ++ (R1 ++ (A2 ++ (B2 ++ Q)))) w8 from ⟨hp1, hs1, hS2⟩)
          clear hp1 hs1 hS2 HRow2 HC
          have HL1 : Hid (R1.length = mid - a) := Lib.hid (by rw [HR1.out.1.length_eq, List.length_append, HLn.out.1, HLn.out.2.2.1]; omega)
          by_cases e5 : mid < en
          · have x5 : decide (mid < en) = true := decide_eq_true e5
            by_cases e6 : en < b
            · have x6 : decide (en < b) = true := decide_eq_true e6
              have HC := Lib.hid (IH.out (P ++ R1) A2 B2 Q mid en b w8 (by have h1 := HLn.out.2.1; have h2 := HLn.out.2.2.2; have h3 := HA.out; omega) (by have := HLn.out.2.1; omega) (by have := HLn.out.2.2.2; omega) (by have h0 := HTot.out; have h1 := HL1.out; have h2 := HLn.out; simp only [List.length_append]; omega) (by have h1 := HL1.out; have h2 := HA.out.1; rw [List.length_append]; omega) (by have := HLn.out.2.1; omega) (by have h2 := HLn.out.2.2.2; omega) HSt.out.2.1 HSt.out.2.2.2 HSm2.out.2 (by rw [List.append_assoc]; exact HR1.out.2.2))
              go_wp2_with fail
              refine HC.out.mono ?_
              rintro e w9 ⟨rfl, R2, hp2, hs2, hS2⟩
              have HEnd : Hid (∃ R, R.Perm (A ++ B) ∧ Sorted' R ∧ SR W g (P ++ (R ++ Q)) w9) := Lib.hid ⟨R1 ++ R2, (HHalf.out R1 R2 HR1.out.1 hp2 HR1.out.2.1 hs2).1, (HHalf.out R1 R2 HR1.out.1 hp2 HR1.out.2.1 hs2).2, by simpa [List.append_assoc] using hS2⟩
              clear hp2 hs2 hS2
              go_wp2
              go_end0
              exact ⟨rfl, HEnd.out⟩
            · have x6 : decide (en < b) = false := decide_eq_false e6
              have HEnd : Hid (∃ R, R.Perm (A ++ B) ∧ Sorted' R ∧ SR W g (P ++ (R ++ Q)) w8) := Lib.hid (by
                have h0 : B2 = [] := List.eq_nil_of_length_eq_zero (by have := HLn.out.2.2.2; omega)
                have h := HHalf.out R1 A2 HR1.out.1 (by rw [h0, List.append_nil]) HR1.out.2.1 HSt.out.2.1
                have h2 := HR1.out.2.2
                rw [h0] at h2
                exact ⟨_, h.1, h.2, by simpa [List.append_assoc] using h2⟩)
              go_wp2
              go_end0
              exact ⟨rfl, HEnd.out⟩
          · have x5 : decide (mid < en) = false := decide_eq_false e5
            have HEnd : Hid (∃ R, R.Perm (A ++ B) ∧ Sorted' R ∧ SR W g (P ++ (R ++ Q)) w8) := Lib.hid (by
              have h0 : A2 = [] := List.eq_nil_of_length_eq_zero (by have := HLn.out.2.1; omega)
              have h := HHalf.out R1 B2 HR1.out.1 (by rw [h0, List.nil_append]) HR1.out.2.1 HSt.out.2.2.2
              have h2 := HR1.out.2.2
              rw [h0] at h2
              exact ⟨_, h.1, h.2, by simpa [List.append_assoc] using h2⟩)
            go_wp2
            go_end0
            exact ⟨rfl, HEnd.out⟩
        · have x4 : decide (i < mid) = false := decide_eq_false e4
          have HR1 : Hid (A1.Perm (A1 ++ B1) ∧ Sorted' A1 ∧ SR W g (P ++ (A1 ++ (A2 ++ (B2 ++ Q)))) wr) := Lib.hid (by
            have : B1 = [] := List.eq_nil_of_length_eq_zero (by have := HLn.out.2.2.1; omega)
            have h := HRow2.out
            rw [this] at h ⊢
            exact ⟨by rw [List.append_nil], HSt.out.1, h⟩)
          clear HRow2
          obtain ⟨R1, hR1⟩ : ∃ R1, R1 = A1 := ⟨_, rfl⟩
          have HR1 : Hid (R1.Perm (A1 ++ B1) ∧ Sorted' R1 ∧ SR W g (P ++ (R1 ++ (A2 ++ (B2 ++ Q)))) wr) := Lib.hid (by rw [hR1]; exact HR1.out)
          clear hR1
          have HL1 : Hid (R1.length = mid - a) := Lib.hid (by rw [HR1.out.1.length_eq, List.length_append, HLn.out.1, HLn.out.2.2.1]; omega)
          by_cases e5 : mid < en
          · have x5 : decide (mid < en) = true := decide_eq_true e5
            by_cases e6 : en < b
            · have x6 : decide (en < b) = true := decide_eq_true e6
              have HC := Lib.hid (IH.out (P ++ R1) A2 B2 Q mid en b wr (by have h1 := HLn.out.2.1; have h2 := HLn.out.2.2.2; have h3 := HA.out; omega) (by have := HLn.out.2.1; omega) (by have := HLn.out.2.2.2; omega) (by have h0 := HTot.out; have h1 := HL1.out; have h2 := HLn.out; simp only [List.length_append]; omega) (by have h1 := HL1.out; have h2 := HA.out.1; rw [List.length_append]; omega) (by have := HLn.out.2.1; omega) (by have h2 := HLn.out.2.2.2; omega) HSt.out.2.1 HSt.out.2.2.2 HSm2.out.2 (by rw [List.append_assoc]; exact HR1.out.2.2))
              go_wp2_with fail
              refine HC.out.mono ?_
              rintro e w9 ⟨rfl, R2, hp2, hs2, hS2⟩
              have HEnd : Hid (∃ R, R.Perm (A ++ B) ∧ Sorted' R ∧ SR W g (P ++ (R ++ Q)) w9) := Lib.hid ⟨R1 ++ R2, (HHalf.out R1 R2 HR1.out.1 hp2 HR1.out.2.1 hs2).1, (HHalf.out R1 R2 HR1.out.1 hp2 HR1.out.2.1 hs2).2, by simpa [List.append_assoc] using hS2⟩
              clear hp2 hs2 hS2
              go_wp2
              go_end0
              exact ⟨rfl, HEnd.out⟩
            · have x6 : decide (en < b) = false := decide_eq_false e6
              have HEnd : Hid (∃ R, R.Perm (A ++ B) ∧ Sorted' R ∧ SR W g (P ++ (R ++ Q)) wr) := Lib.hid (by
                have h0 : B2 = [] := List.eq_nil_of_length_eq_zero (by have := HLn.out.2.2.2; omega)
                have h := HHalf.out R1 A2 HR1.out.1 (by rw [h0, List.append_nil]) HR1.out.2.1 HSt.out.2.1
                have h2 := HR1.out.2.2
                rw [h0] at h2
                exact ⟨_, h.1, h.2, by simpa [List.append_assoc] using h2⟩)
              go_wp2
              go_end0
              exact ⟨rfl, HEnd.out⟩
          · have x5 : decide (mid < en) = false := decide_eq_false e5
            have HEnd : Hid (∃ R, R.Perm (A ++ B) ∧ Sorted' R ∧ SR W g (P ++ (R ++ Q)) wr) := Lib.hid (by
              have h0 : A2 = [] := List.eq_nil_of_length_eq_zero (by have := HLn.out.2.1; omega)
              have h := HHalf.out R1 B2 HR1.out.1 (by rw [h0, List.nil_append]) HR1.out.2.1 HSt.out.2.2.2
              have h2 := HR1.out.2.2
              rw [h0] at h2
              exact ⟨_, h.1, h.2, by simpa [List.append_assoc] using h2⟩)
            go_wp2
            go_end0
            exact ⟨rfl, HEnd.out⟩
      · have x3 : decide (a < i) = false := decide_eq_false e3
        have HR1 : Hid (B1.Perm (A1 ++ B1) ∧ Sorted' B1 ∧ SR W g (P ++ (B1 ++ (A2 ++ (B2 ++ Q)))) wr) := Lib.hid (by
          have : A1 = [] := List.eq_nil_of_length_eq_zero (by have := HLn.out.1; omega)
          have h := HRow2.out
          rw [this] at h ⊢
          exact ⟨List.Perm.refl _, HSt.out.2.2.1, h⟩)
        clear HRow2
        obtain ⟨R1, hR1⟩ : ∃ R1, R1 = B1 := ⟨_, rfl⟩
        have HR1 : Hid (R1.Perm (A1 ++ B1) ∧ Sorted' R1 ∧ SR W g (P ++ (R1 ++ (A2 ++ (B2 ++ Q)))) wr) := Lib.hid (by rw [hR1]; exact HR1.out)
        clear hR1
        have HL1 : Hid (R1.length = mid - a) := Lib.hid (by rw [HR1.out.1.length_eq, List.length_append, HLn.out.1, HLn.out.2.2.1]; omega)
        by_cases e5 : mid < en
        · have x5 : decide (mid < en) = true := decide_eq_true e5
          by_cases e6 : en < b
          · have x6 : decide (en < b) = true := decide_eq_true e6
            have HC := Lib.hid (IH.out (P ++ R1) A2 B2 Q mid en b wr (by have h1 := HLn.out.2.1; have h2 := HLn.out.2.2.2; have h3 := HA.out; omega) (by have := HLn.out.2.1; omega) (by have := HLn.out.2.2.2; omega) (by have h0 := HTot.out; have h1 := HL1.out; have h2 := HLn.out; simp only [List.length_append]; omega) (by have h1 := HL1.out; have h2 := HA.out.1; rw [List.length_append]; omega) (by have := HLn.out.2.1; omega) (by have h2 := HLn.out.2.2.2; omega) HSt.out.2.1 HSt.out.2.2.2 HSm2.out.2 (by rw [List.append_assoc]; exact HR1.out.2.2))
            go_wp2_with fail
            refine HC.out.mono ?_
            rintro e w9 ⟨rfl, R2, hp2, hs2, hS2⟩
            have HEnd : Hid (∃ R, R.Perm (A ++ B) ∧ Sorted' R ∧ SR W g (P ++ (R ++ Q)) w9) := Lib.hid ⟨R1 ++ R2, (HHalf.out R1 R2 HR1.out.1 hp2 HR1.out.2.1 hs2).1, (HHalf.out R1 R2 HR1.out.1 hp2 HR1.out.2.1 hs2).2, by simpa [List.append_assoc] using hS2⟩
            clear hp2 hs2 hS2
            go_wp2
            go_end0
            exact ⟨rfl, HEnd.out⟩
          · have x6 : decide (en < b) = false := decide_eq_false e6
            have HEnd : Hid (∃ R, R.Perm (A ++ B) ∧ Sorted' R ∧ SR W g (P ++ (R ++ Q)) wr) := Lib.hid (by
              have h0 : B2 = [] := List.eq_nil_of_length_eq_zero (by have := HLn.out.2.2.2; omega)
              have h := HHalf.out R1 A2 HR1.out.1 (by rw [h0, List.append_nil]) HR1.out.2.1 HSt.out.2.1
              have h2 := HR1.out.2.2
              rw [h0] at h2
              exact ⟨_, h.1, h.2, by simpa [List.append_assoc] using h2⟩)
            go_wp2
            go_end0
            exact ⟨rfl, HEnd.out⟩
        · have x5 : decide (mid < en) = false := decide_eq_false e5
          have HEnd : Hid (∃ R, R.Perm (A ++ B) ∧ Sorted' R ∧ SR W g (P ++ (R ++ Q)) wr) := Lib.hid (by
            have h0 : A2 = [] := List.eq_nil_of_length_eq_zero (by have := HLn.out.2.1; omega)
            have h := HHalf.out R1 B2 HR1.out.1 (by rw [h0, List.nil_append]) HR1.out.2.1 HSt.out.2.2.2
            have h2 := HR1.out.2.2
            rw [h0] at h2
            exact ⟨_, h.1, h.2, by simpa [List.append_assoc] using h2⟩)
          go_wp2
          go_end0
          exact ⟨rfl, HEnd.out⟩
end Go.Proofs.YtnplommdgfgboaaGreatDoor.SortW
set_option linter.unusedVariables false
set_option linter.unusedSimpArgs false
namespace Go.Proofs.YtnplommdgfgboaaGreatDoor.SortW
open Go.RowKit Go.Lib Go.Proofs.YtnplommdgfgboaaGreatDoor.B Go.Proofs.YtnplommdgfgboaaGreatDoor.Rd Go.Proofs.YtnplommdgfgboaaGreatDoor.Utf Go.Proofs.YtnplommdgfgboaaGreatDoor.TermPure Go.Proofs.YtnplommdgfgboaaGreatDoor.LinesPure Go.Proofs.YtnplommdgfgboaaGreatDoor.Tx Go.Proofs.YtnplommdgfgboaaGreatDoor.Env Go.Proofs.YtnplommdgfgboaaGreatDoor.Tri Go.Proofs.YtnplommdgfgboaaGreatDoor.SortP Go.Proofs.YtnplommdgfgboaaGreatDoor.Print Go.Proofs.YtnplommdgfgboaaGreatDoor.Cmp Go.Proofs.YtnplommdgfgboaaGreatDoor.Long
set_option maxHeartbeats 25600000 in
set_option maxRecDepth 100000 in
theorem sym_gen2 (L cap : Nat) (hLs : L ≤ 140737488355328) (g : Nat) (W : World) (N : Nat) (hIH : SymC L cap g W N) (P A B Q : List Triple) (a m b : Nat) (w : World) (hN : A.length + B.length ≤ N + 1) (hA0 : 0 < A.length) (hB0 : 0 < B.length) (hL : (P ++ (A ++ (B ++ Q))).length = L) (ha : a = P.length) (hm : m = a + A.length) (hb : b = m + B.length) (hA : Sorted' A) (hB : Sorted' B) (hsm : ∀ t ∈ A ++ B, SmallT t) (hS : SR W g (P ++ (A ++ (B ++ Q))) w) (c1 : ¬ A.length = 1) (c2 : ¬ B.length = 1) (hcase : m ≤ (a + b) / 2) :
    Calls Tryz.prog 195 #[.slice (some ⟨g, 0, none⟩) L cap, .int .i64 a, .int .i64 m, .int .i64 b, cmpV] w fun e w' => e = .returned (.tuple #[]) ∧ ∃ R, R.Perm (A ++ B) ∧ Sorted' R ∧ SR W g (P ++ (R ++ Q)) w' := by
  have hlen := hL
  simp only [List.length_append] at hlen
  have IH := Lib.hid hIH
  obtain ⟨d0, hd0⟩ : ∃ d0, d0 = m - a := ⟨_, rfl⟩
  have w0 : IntKind.i64.wrap ((m : Int) - (a : Int)) = (d0 : Int) := by rw [IntKind.wrap_i64]; omega
  have w00 : ((d0 : Int) == 1) = false := by rw [beq_eq_false_iff_ne]; omega
  obtain ⟨d1, hd1⟩ : ∃ d1, d1 = b - m := ⟨_, rfl⟩
  have w1 : IntKind.i64.wrap ((b : Int) - (m : Int)) = (d1 : Int) := by rw [IntKind.wrap_i64]; omega
  have w11 : ((d1 : Int) == 1) = false := by rw [beq_eq_false_iff_ne]; omega
  obtain ⟨mid, hmid⟩ : ∃ mid, mid = (a + b) / 2 := ⟨_, rfl⟩
  have hq : ((a : Int) + (b : Int)) / 2 = (mid : Int) := by omega
  obtain ⟨n, hn⟩ : ∃ n, n = mid + m := ⟨_, rfl⟩
  have wn : IntKind.i64.wrap ((mid : Int) + (m : Int)) = (n : Int) := by rw [IntKind.wrap_i64]; omega
  obtain ⟨p, hp⟩ : ∃ p, p + 1 = n := ⟨n - 1, by omega⟩
  have wp : IntKind.i64.wrap ((n : Int) - 1) = (p : Int) := by rw [IntKind.wrap_i64]; omega
  rw [← hmid] at hcase
  have HSR : Hid ((mid < m ∧ a + b = n ∧ m = mid) ∨ (m ≤ mid ∧ a = a ∧ m = m)) := Lib.hid (.inr ⟨hcase, rfl, rfl⟩)
  have hdm : decide (mid < m) = false := decide_eq_false (by omega)
  have hbds : a ≤ a ∧ a ≤ m ∧ m ≤ m ∧ a ≤ n := by omega
  have hin : ∀ c, a ≤ c → c < m → m ≤ p - c ∧ p - c < b ∧ a ≤ c ∧ c < m ∧ c ≤ p := fun c h1 h2 => by omega
  obtain ⟨hb1, hb2, hb3, hb4⟩ := hbds
  have hbL : b ≤ L := by omega
  have ham : a < m := by omega
  have hmb : m < b := by omega
  have hamid : a < mid := by omega
  have hmidb : mid < b := by omega
  have HIn := Lib.hid hin
  have HA := Lib.hid (show a = P.length ∧ m = P.length + A.length ∧ b = m + B.length ∧ mid = (a + b) / 2 ∧ n = mid + m ∧ p + 1 = n ∧ A.length + B.length ≤ N + 1 from ⟨ha, by omega, hb, hmid, hn, hp, hN⟩)
  have HAs := Lib.hid hA
  have HBs := Lib.hid hB
  have HSm := Lib.hid hsm
  have HS0 := Lib.hid hS
  have HL := Lib.hid hL
  clear hin hS hL hlen ha hb hA hB hsm hm hd0 hd1 hmid hn hp c1 c2 hA0 hB0 hN hIH
  unfold cmpV at *
  go_enter Tryz.func195, Tryz.ntmps195
  go_wp2
  go_loopw [20, 21] (fun vi vj wr => ∃ i j : Nat, vi = .int .i64 i ∧ vj = .int .i64 j ∧ a ≤ i ∧ i ≤ j ∧ j ≤ m ∧ Hid ((i = a ∨ ∃ u v, A[i - 1 - a]? = some u ∧ B[n - i - m]? = some v ∧ ¬ ltT v u) ∧ (j = m ∨ ∃ u v, A[j - a]? = some u ∧ B[p - j - m]? = some v ∧ ltT v u) ∧ SR W g (P ++ (A ++ (B ++ Q))) wr)) (fun vi vj _ => (intOf vj).toNat - (intOf vi).toNat)
  case atStart => exact ⟨a, m, rfl, rfl, by omega, by omega, by omega, Lib.hid ⟨.inl rfl, .inl rfl, HS0.out⟩⟩
  case round =>
  obtain ⟨i, j, rfl, rfl, hmi, hij, hjb, HR⟩ := hrel
  clear HS0 w0 w00 w1 w11 hq wn
  by_cases hlt : i < j
  · have hd : decide (i < j) = true := decide_eq_true hlt
    obtain ⟨h, hh⟩ : ∃ h, h = (i + j) / 2 := ⟨_, rfl⟩
    have hq : ((i : Int) + (j : Int)) / 2 = (h : Int) := by omega
    have hih : i ≤ h := by omega
    have hhj : h < j := by omega
    clear hh
    obtain ⟨i1, i2, i3, i4, i5⟩ := HIn.out h (by omega) (by omega)
    obtain ⟨pc, hpc⟩ : ∃ pc, pc = p - h := ⟨_, rfl⟩
    have wpc : IntKind.i64.wrap ((p : Int) - (h : Int)) = (pc : Int) := by rw [IntKind.wrap_i64]; omega
    have hhb : (h : Int) < (L : Int) := by omega
    have hab : (pc : Int) < (L : Int) := by omega
    have hAl : h - a < A.length := by have h1 := HA.out.1; have h2 := HA.out.2.1; omega
    have hBl : pc - m < B.length := by have h1 := HA.out.2.2.1; omega
    obtain ⟨x, hu⟩ : ∃ x, A[h - a]? = some x := ⟨_, List.getElem?_eq_getElem hAl⟩
    obtain ⟨y, hv⟩ : ∃ y, B[pc - m]? = some y := ⟨_, List.getElem?_eq_getElem hBl⟩
    have hrow : (P ++ (A ++ (B ++ Q)))[h]? = some x := by
      rw [← hu, ← at_A (P := P) (A := A) (B := B) (Q := Q) hAl]
      congr 1
      have := HA.out.1
      omega
    have hrow0 : (P ++ (A ++ (B ++ Q)))[pc]? = some y := by
      rw [← hv, ← at_B (P := P) (A := A) (B := B) (Q := Q) hBl]
      congr 1
      have := HA.out.2.1
      omega
    have hcu := HR.out.2.2.at hrow
    have hcv := HR.out.2.2.at hrow0
    have hgl := hcu.lt
    have HBk : Hid (∀ w2, Below wr.heap.size wr w2 → SR W g (P ++ (A ++ (B ++ Q))) w2) := Lib.hid (fun w2 hb => HR.out.2.2.below hgl hb)
    have HC := Lib.hid (fun w => cmp_calls y x (HSm.out y (List.mem_append_right _ (List.mem_of_getElem? hv))) (HSm.out x (List.mem_append_left _ (List.mem_of_getElem? hu))) w)
    have HLt : Hid (cmpT y x < 0 ↔ ltT y x) := Lib.hid Iff.rfl
    have HU : Hid (A[h - a]? = some x ∧ B[p - h - m]? = some y ∧ B[n - (h + 1) - m]? = some y) := Lib.hid ⟨hu, by rw [← hpc]; exact hv, by rw [← hv]; congr 1; have := HA.out.2.2.2.2.2.1; omega⟩
    have HI := Lib.hid HR.out.1
    have HJ := Lib.hid HR.out.2.1
    obtain ⟨r, hr⟩ : ∃ r, r = cmpT y x := ⟨_, rfl⟩
    rw [← hr] at HC HLt
    clear hr hu hv hrow hrow0 hAl hBl HR hpc
    by_cases hvn : r < 0
    · have hvd : decide (r < 0) = true := decide_eq_true hvn
      have HYL : Hid (ltT y x) := Lib.hid (HLt.out.1 hvn)
      have HJ2 : Hid (h = m ∨ ∃ u v, A[h - a]? = some u ∧ B[p - h - m]? = some v ∧ ltT v u) := Lib.hid (.inr ⟨x, y, HU.out.1, HU.out.2.1, HYL.out⟩)
      clear hvn HLt HU HYL HJ
      obtain ⟨⟨sk', sx', se'⟩, ⟨pk', px', pe'⟩, ⟨ok', ox', oe'⟩⟩ := y
      obtain ⟨⟨sk, sx, se⟩, ⟨pk, px, pe⟩, ⟨ok, ox, oe⟩⟩ := x
      have y0 := fun p => (hcv.bel p).c0
      have y1 := fun p => (hcv.bel p).c1
      have y2 := fun p => (hcv.bel p).c2
      have y3 := fun p => (hcv.bel p).c3
      have y4 := fun p => (hcv.bel p).c4
      have y5 := fun p => (hcv.bel p).c5
      have y6 := fun p => (hcv.bel p).c6
      have y7 := fun p => (hcv.bel p).c7
      have y8 := fun p => (hcv.bel p).c8
      have x0 := fun p => (hcu.bel p).c0
      have x1 := fun p => (hcu.bel p).c1
      have x2 := fun p => (hcu.bel p).c2
      have x3 := fun p => (hcu.bel p).c3
      have x4 := fun p => (hcu.bel p).c4
      have x5 := fun p => (hcu.bel p).c5
      have x6 := fun p => (hcu.bel p).c6
      have x7 := fun p => (hcu.bel p).c7
      have x8 := fun p => (hcu.bel p).c8
      dsimp only at y0 y1 y2 y3 y4 y5 y6 y7 y8 x0 x1 x2 x3 x4 x5 x6 x7 x8
      unfold Ref5.tripleV at HC
      dsimp only at HC
      go_upto_region 35 with fail
      refine QT.region_all (by kernel_rfl) (by kernel_rfl) ?_
      iterate 11 (go_big_quiet_step (fail))
      go_big_quiet_step (exact QT.Bel.call _ (HC.out _))
      iterate 2 (go_big_quiet_step (fail))
      refine wpQuiet_nil ?_
      intro w2 hw'
      obtain ⟨⟨_, hb⟩, rfl⟩ := hw'
      have HS2 := Lib.hid (HBk.out w2 hb)
      clear hb y0 y1 y2 y3 y4 y5 y6 y7 y8 x0 x1 x2 x3 x4 x5 x6 x7 x8 hcu hcv
      go_wp2
      go_roundw
      case rel => exact ⟨i, h, rfl, by go_num, hmi, by omega, by omega, Lib.hid ⟨HI.out, HJ2.out, HS2.out⟩⟩
      case measure => simp [intOf]; omega
    · have hvd : decide (r < 0) = false := decide_eq_false hvn
      have HYL : Hid (¬ ltT y x) := Lib.hid (fun hl => hvn (HLt.out.2 hl))
      have HI2 : Hid (h + 1 = a ∨ ∃ u v, A[h + 1 - 1 - a]? = some u ∧ B[n - (h + 1) - m]? = some v ∧ ¬ ltT v u) := Lib.hid (.inr ⟨x, y, by rw [show h + 1 - 1 - a = h - a by omega]; exact HU.out.1, HU.out.2.2, HYL.out⟩)
      clear hvn HLt HU HYL HI
      obtain ⟨⟨sk', sx', se'⟩, ⟨pk', px', pe'⟩, ⟨ok', ox', oe'⟩⟩ := y
      obtain ⟨⟨sk, sx, se⟩, ⟨pk, px, pe⟩, ⟨ok, ox, oe⟩⟩ := x
      have y0 := fun p => (hcv.bel p).c0
      have y1 := fun p => (hcv.bel p).c1
      have y2 := fun p => (hcv.bel p).c2
      have y3 := fun p => (hcv.bel p).c3
      have y4 := fun p => (hcv.bel p).c4
      have y5 := fun p => (hcv.bel p).c5
      have y6 := fun p => (hcv.bel p).c6
      have y7 := fun p => (hcv.bel p).c7
      have y8 := fun p => (hcv.bel p).c8
      have x0 := fun p => (hcu.bel p).c0
      have x1 := fun p => (hcu.bel p).c1
      have x2 := fun p => (hcu.bel p).c2
      have x3 := fun p => (hcu.bel p).c3
      have x4 := fun p => (hcu.bel p).c4
      have x5 := fun p => (hcu.bel p).c5
      have x6 := fun p => (hcu.bel p).c6
      have x7 := fun p => (hcu.bel p).c7
      have x8 := fun p => (hcu.bel p).c8
      dsimp only at y0 y1 y2 y3 y4 y5 y6 y7 y8 x0 x1 x2 x3 x4 x5 x6 x7 x8
      unfold Ref5.tripleV at HC
      dsimp only at HC
      go_upto_region 35 with fail
      refine QT.region_all (by kernel_rfl) (by kernel_rfl) ?_
      iterate 11 (go_big_quiet_step (fail))
      go_big_quiet_step (exact QT.Bel.call _ (HC.out _))
      iterate 2 (go_big_quiet_step (fail))
      refine wpQuiet_nil ?_
      intro w2 hw'
      obtain ⟨⟨_, hb⟩, rfl⟩ := hw'
      have HS2 := Lib.hid (HBk.out w2 hb)
      clear hb y0 y1 y2 y3 y4 y5 y6 y7 y8 x0 x1 x2 x3 x4 x5 x6 x7 x8 hcu hcv
      go_wp2
      go_roundw
      case rel => exact ⟨h + 1, j, by go_num, rfl, by omega, by omega, hjb, Lib.hid ⟨HI2.out, HJ.out, HS2.out⟩⟩
      case measure => simp [intOf]; omega
  · have hd : decide (i < j) = false := decide_eq_false hlt
    obtain rfl : i = j := by omega
    obtain ⟨en, hen⟩ : ∃ en, en = n - i := ⟨_, rfl⟩
    have wen : IntKind.i64.wrap ((n : Int) - (i : Int)) = (en : Int) := by rw [IntKind.wrap_i64]; have := HA.out.2.2.2.2.1; omega
    have hbnd : a ≤ i ∧ i ≤ m ∧ m ≤ en ∧ en ≤ b ∧ mid + m = i + en ∧ i ≤ mid ∧ mid ≤ en := by
      have h1 := HA.out.2.2.2.2.1
      have h2 := HA.out.2.2.2.1
      rcases HSR.out with ⟨h3, h4, h5⟩ | ⟨h3, h4, h5⟩ <;> omega
    obtain ⟨n1, n2, n3, n4, n5, n6, n7⟩ := hbnd
    obtain ⟨A1, hA1⟩ : ∃ A1, A1 = A.take (i - a) := ⟨_, rfl⟩
    obtain ⟨A2, hA2⟩ : ∃ A2, A2 = A.drop (i - a) := ⟨_, rfl⟩
    obtain ⟨B1, hB1⟩ : ∃ B1, B1 = B.take (en - m) := ⟨_, rfl⟩
    obtain ⟨B2, hB2⟩ : ∃ B2, B2 = B.drop (en - m) := ⟨_, rfl⟩
    have HLn : Hid (A1.length = i - a ∧ A2.length = m - i ∧ B1.length = en - m ∧ B2.length = b - en) := Lib.hid (by
      have h1 := HA.out.1; have h2 := HA.out.2.1; have h3 := HA.out.2.2.1
      rw [hA1, hA2, hB1, hB2, List.length_take, List.length_drop, List.length_take, List.length_drop]
      omega)
    have HAB : Hid (A = A1 ++ A2 ∧ B = B1 ++ B2) := Lib.hid ⟨by rw [hA1, hA2, List.take_append_drop], by rw [hB1, hB2, List.take_append_drop]⟩
    have HHalf : Hid (∀ R1 R2, R1.Perm (A1 ++ B1) → R2.Perm (A2 ++ B2) → Sorted' R1 → Sorted' R2 → (R1 ++ R2).Perm (A ++ B) ∧ Sorted' (R1 ++ R2)) := Lib.hid (by
      intro R1 R2 p1 p2 s1 s2
      have h1 := HA.out.1; have h2 := HA.out.2.1; have h3 := HA.out.2.2.1; have h4 := HA.out.2.2.2.2.1; have h5 := HA.out.2.2.2.2.2.1
      refine halves (s := i - a) (e := en - m) HAs.out HBs.out ?_ ?_ (by rw [← hA1, ← hB1]; exact p1) (by rw [← hA2, ← hB2]; exact p2) s1 s2
      · rcases HR.out.1 with h | ⟨u, v, hu, hv, hl⟩
        · rcases HSR.out with ⟨h6, h7, h8⟩ | ⟨h6, h7, h8⟩
          · right; left; omega
          · left; omega
        · right; right
          exact ⟨u, v, by rw [← hu]; congr 1; omega, by rw [← hv]; congr 1; omega, hl⟩
      · rcases HR.out.2.1 with h | ⟨u, v, hu, hv, hl⟩
        · rcases HSR.out with ⟨h6, h7, h8⟩ | ⟨h6, h7, h8⟩
          · right; left; omega
          · left; omega
        · right; right
          exact ⟨v, u, by rw [← hv]; congr 1; omega, hu, ltT_asymm hl⟩)
    have HSm2 : Hid ((∀ t ∈ A1 ++ B1, SmallT t) ∧ (∀ t ∈ A2 ++ B2, SmallT t)) := Lib.hid (by
      have h := HSm.out
      rw [HAB.out.1, HAB.out.2] at h
      refine ⟨fun t ht => h t ?_, fun t ht => h t ?_⟩
      · rcases List.mem_append.1 ht with ht | ht <;> simp [ht]
      · rcases List.mem_append.1 ht with ht | ht <;> simp [ht])
    have HSt : Hid (Sorted' A1 ∧ Sorted' A2 ∧ Sorted' B1 ∧ Sorted' B2) := Lib.hid (by
      have hA := HAs.out
      have hB := HBs.out
      rw [HAB.out.1] at hA
      rw [HAB.out.2] at hB
      exact ⟨(List.pairwise_append.1 hA).1, (List.pairwise_append.1 hA).2.1, (List.pairwise_append.1 hB).1, (List.pairwise_append.1 hB).2.1⟩)
    have HRow : Hid (SR W g (P ++ (A1 ++ (A2 ++ (B1 ++ (B2 ++ Q))))) wr ∧ P.length + (A1.length + (A2.length + (B1.length + (B2.length + Q.length)))) = L) := Lib.hid (by
      have h := HR.out.2.2
      have hl := HL.out
      rw [HAB.out.1, HAB.out.2] at h hl
      refine ⟨by simpa [List.append_assoc] using h, ?_⟩
      simp only [List.length_append] at hl
      omega)
    clear HR HAs HBs HSm HL hA1 hA2 hB1 hB2 hen
    have HTot := Lib.hid HRow.out.2
    by_cases e1 : i < m
    · have x1 : decide (i < m) = true := decide_eq_true e1
      by_cases e2 : m < en
      · have x2 : decide (m < en) = true := decide_eq_true e2
        have HC := Lib.hid (rotate_calls (.func (.func 119) #[] #[]) (P ++ A1) A2 B1 (B2 ++ Q) (by have := HLn.out.2.1; omega) (by have := HLn.out.2.2.1; omega) L (by have := HRow.out.2; simp only [List.length_append]; omega) hLs i m en cap (by have h1 := HLn.out.1; have h2 := HA.out.1; rw [List.length_append]; omega) (by have := HLn.out.2.1; omega) (by have := HLn.out.2.2.1; omega) g W wr (by have := HRow.out.1; rw [List.append_assoc]; exact this))
        go_wp2_with fail
        refine HC.out.mono ?_
        rintro e w7 ⟨rfl, hS2⟩
        have HRow2 : Hid (SR W g (P ++ (A1 ++ (B1 ++ (A2 ++ (B2 ++ Q))))) w7) := Lib.hid (by rw [← List.append_assoc]; exact hS2)
        clear hS2 HRow HC
        by_cases e3 : a < i
        · have x3 : decide (a < i) = true := decide_eq_true e3
          by_cases e4 : i < mid
          · have x4 : decide (i < mid) = true := decide_eq_true e4
            have HC := Lib.hid (IH.out P A1 B1 (A2 ++ (B2 ++ Q)) a i mid w7 (by have h1 := HLn.out.1; have h2 := HLn.out.2.2.1; have h3 := HA.out; omega) (by have := HLn.out.1; omega) (by have := HLn.out.2.2.1; omega) (by have := HTot.out; simp only [List.length_append]; omega) HA.out.1 (by have := HLn.out.1; omega) (by have h2 := HLn.out.2.2.1; omega) HSt.out.1 HSt.out.2.2.1 HSm2.out.1 HRow2.out)
            go_wp2_with fail
            refine HC.out.mono ?_
            rintro e w8 ⟨rfl, R1, hp1, hs1, hS2⟩
            have HR1 := Lib.hid (show R1.Perm (A1 ++ B1) ∧ Sorted' R1 ∧ SR W g (P ++ (R1 ++ (A2 ++ (B2 ++ Q)))) w8 from ⟨hp1, hs1, hS2⟩)
            clear hp1 hs1 hS2 HRow2 HC
            have HL1 : Hid (R1.length = mid - a) := Lib.hid (by rw [HR1.out.1.length_eq, List.length_append, HLn.out.1, HLn.out.2.2.1]; omega)
            by_cases e5 : mid < en
            · have x5 : decide (mid < en) = true := decide_eq_true e5
              by_cases e6 : en < b
              · have x6 : decide (en < b) = true := decide_eq_true e6
                have HC := Lib.hid (IH.out (P ++ R1) A2 B2 Q mid en b w8 (by have h1 := HLn.out.2.1; have h2 := HLn.out.2.2.2; have h3 := HA.out; omega) (by have := HLn.out.2.1; omega) (by have := HLn.out.2.2.2; omega) (by have h0 := HTot.out; have h1 := HL1.out; have h2 := HLn.out; simp only [List.length_append]; omega) (by have h1 := HL1.out; have h2 := HA.out.1; rw [List.length_append]; omega) (by have := HLn.out.2.1; omega) (by have h2 := HLn.out.2.2.2; omega) HSt.out.2.1 HSt.out.2.2.2 HSm2.out.2 (by rw [List.append_assoc]; exact HR1.out.2.2))
                go_wp2_with fail
                refine HC.out.mono ?_
                rintro e w9 ⟨rfl, R2, hp2, hs2, hS2⟩
                have HEnd : Hid (∃ R, R.Perm (A ++ B) ∧ Sorted' R ∧ SR W g (P ++ (R ++ Q)) w9) := Lib.hid ⟨R1 ++ R2, (HHalf.out R1 R2 HR1.out.1 hp2 HR1.out.2.1 hs2).1, (HHalf.out R1 R2 HR1.out.1 hp2 HR1.out.2.1 hs2).2, by simpa [List.append_assoc] using hS2⟩
                clear hp2 hs2 hS2
                go_wp2
                go_end0
                exact ⟨rfl, HEnd.out⟩
              · have x6 : decide (en < b) = false := decide_eq_false e6
                have HEnd : Hid (∃ R, R.Perm (A ++ B) ∧ Sorted' R ∧ SR W g (P ++ (R ++ Q)) w8) := Lib.hid (by
                  have h0 : B2 = [] := List.eq_nil_of_length_eq_zero (by have := HLn.out.2.2.2; omega)
                  have h := HHalf.out R1 A2 HR1.out.1 (by rw [h0, List.append_nil]) HR1.out.2.1 HSt.out.2.1
                  have h2 := HR1.out.2.2
                  rw [h0] at h2
                  exact ⟨_, h.1, h.2, by simpa [List.append_assoc] using h2⟩)
                go_wp2
                go_end0
                exact ⟨rfl, HEnd.out⟩
            · have x5 : decide (mid < en) = false := decide_eq_false e5
              have HEnd : Hid (∃ R, R.Perm (A ++ B) ∧ Sorted' R ∧ SR W g (P ++ (R ++ Q)) w8) := Lib.hid (by
                have h0 : A2 = [] := List.eq_nil_of_length_eq_zero (by have := HLn.out.2.1; omega)
                have h := HHalf.out R1 B2 HR1.out.1 (by rw [h0, List.nil_append]) HR1.out.2.1 HSt.out.2.2.2
                have h2 := HR1.out.2.2
                rw [h0] at h2
                exact ⟨_, h.1, h.2, by simpa [List.append_assoc] using h2⟩)
              go_wp2
              go_end0
              exact ⟨rfl, HEnd.out⟩
          · have x4 : decide (i < mid) = false := decide_eq_false e4
            have HR1 : Hid (A1.Perm (A1 ++ B1) ∧ Sorted' A1 ∧ SR W g (P ++ (A1 ++ (A2 ++ (B2 ++ Q)))) w7) := Lib.hid (by
              have : B1 = [] := List.eq_nil_of_length_eq_zero (by have := HLn.out.2.2.1; omega)
              have h := HRow2.out
              rw [this] at h ⊢
              exact ⟨by rw [List.append_nil], HSt.out.1, h⟩)
            clear HRow2
            obtain ⟨R1, hR1⟩ : ∃ R1, R1 = A1 := ⟨_, rfl⟩
            have HR1 : Hid (R1.Perm (A1 ++ B1) ∧ Sorted' R1 ∧ SR W g (P ++ (R1 ++ (A2 ++ (B2 ++ Q)))) w7) := Lib.hid (by rw [hR1]; exact HR1.out)
            clear hR1
            have HL1 : Hid (R1.length = mid - a) := Lib.hid (by rw [HR1.out.1.length_eq, List.length_append, HLn.out.1, HLn.out.2.2.1]; omega)
            by_cases e5 : mid < en
            · have x5 : decide (mid < en) = true := decide_eq_true e5
              by_cases e6 : en < b
              · have x6 : decide (en < b) = true := decide_eq_true e6
                have HC := Lib.hid (IH.out (P ++ R1) A2 B2 Q mid en b w7 (by have h1 := HLn.out.2.1; have h2 := HLn.out.2.2.2; have h3 := HA.out; omega) (by have := HLn.out.2.1; omega) (by have := HLn.out.2.2.2; omega) (by have h0 := HTot.out; have h1 := HL1.out; have h2 := HLn.out; simp only [List.length_append]; omega) (by have h1 := HL1.out; have h2 := HA.out.1; rw [List.length_append]; omega) (by have := HLn.out.2.1; omega) (by have h2 := HLn.out.2.2.2; omega) HSt.out.2.1 HSt.out.2.2.2 HSm2.out.2 (by rw [List.append_assoc]; exact HR1.out.2.2))
                go_wp2_with fail
                refine HC.out.mono ?_
                rintro e w9 ⟨rfl, R2, hp2, hs2, hS2⟩
                have HEnd : Hid (∃ R, R.Perm (A ++ B) ∧ Sorted' R ∧ SR W g (P ++ (R ++ Q)) w9) := Lib.hid ⟨R1 ++ R2, (HHalf.out R1 R2 HR1.out.1 hp2 HR1.out.2.1 hs2).1, (HHalf.out R1 R2 HR1.out.1 hp2 HR1.out.2.1 hs2).2, by simpa [List.append_assoc] using hS2⟩
                clear hp2 hs2 hS2
                go_wp2
                go_end0
                exact ⟨rfl, HEnd.out⟩
              · have x6 : decide (en < b) = false := decide_eq_false e6
                have HEnd : Hid (∃ R, R.Perm (A ++ B) ∧ Sorted' R ∧ SR W g (P ++ (R ++ Q)) w7) := Lib.hid (by
                  have h0 : B2 = [] := List.eq_nil_of_length_eq_zero (by have := HLn.out.2.2.2; omega)
                  have h := HHalf.out R1 A2 HR1.out.1 (by rw [h0, List.append_nil]) HR1.out.2.1 HSt.out.2.1
                  have h2 := HR1.out.2.2
                  rw [h0] at h2
                  exact ⟨_, h.1, h.2, by simpa [List.append_assoc] using h2⟩)
                go_wp2
                go_end0
                exact ⟨rfl, HEnd.out⟩
            · have x5 : decide (mid < en) = false := decide_eq_false e5
              have HEnd : Hid (∃ R, R.Perm (A ++ B) ∧ Sorted' R ∧ SR W g (P ++ (R ++ Q)) w7) := Lib.hid (by
                have h0 : A2 = [] := List.eq_nil_of_length_eq_zero (by have := HLn.out.2.1; omega)
                have h := HHalf.out R1 B2 HR1.out.1 (by rw [h0, List.nil_append]) HR1.out.2.1 HSt.out.2.2.2
                have h2 := HR1.out.2.2
                rw [h0] at h2
                exact ⟨_, h.1, h.2, by simpa [List.append_assoc] using h2⟩)
              go_wp2
              go_end0
              exact ⟨rfl, HEnd.out⟩
        · have x3 : decide (a < i) = false := decide_eq_false e3
          have HR1 : Hid (B1.Perm (A1 ++ B1) ∧ Sorted' B1 ∧ SR W g (P ++ (B1 ++ (A2 ++ (B2 ++ Q)))) w7) := Lib.hid (by
            have : A1 = [] := List.eq_nil_of_length_eq_zero (by have := HLn.out.1; omega)
            have h := HRow2.out
            rw [this] at h ⊢
            exact ⟨List.Perm.refl _, HSt.out.2.2.1, h⟩)
          clear HRow2
          obtain ⟨R1, hR1⟩ : ∃ R1, R1 = B1 := ⟨_, rfl⟩
          have HR1 : Hid (R1.Perm (A1 ++ B1) ∧ Sorted' R1 ∧ SR W g (P ++ (R1 ++ (A2 ++ (B2 ++ Q)))) w7) := Lib.hid (by rw [hR1]; exact HR1.out)
          clear hR1
          have HL1 : Hid (R1.length = mid - a) := Lib.hid (by rw [HR1.out.1.length_eq, List.length_append, HLn.out.1, HLn.out.2.2.1]; omega)
          by_cases e5 : mid < en
          · have x5 : decide (mid < en) = true := decide_eq_true e5
            by_cases e6 : en < b
            · have x6 : decide (en < b) = true := decide_eq_true e6
              have HC := Lib.hid (IH.out (P ++ R1) A2 B2 Q mid en b w7 (by have h1 := HLn.out.2.1; have h2 := HLn.out.2.2.2; have h3 := HA.out; omega) (by have := HLn.out.2.1; omega) (by have := HLn.out.2.2.2; omega) (by have h0 := HTot.out; have h1 := HL1.out; have h2 := HLn.out; simp only [List.length_append]; omega) (by have h1 := HL1.out; have h2 := HA.out.1; rw [List.length_append]; omega) (by have := HLn.out.2.1; omega) (by have h2 := HLn.out.2.2.2; omega) HSt.out.2.1 HSt.out.2.2.2 HSm2.out.2 (by rw [List.append_assoc]; exact HR1.out.2.2))
              go_wp2_with fail
              refine HC.out.mono ?_
              rintro e w9 ⟨rfl, R2, hp2, hs2, hS2⟩
              have HEnd : Hid (∃ R, R.Perm (A ++ B) ∧ Sorted' R ∧ SR W g (P ++ (R ++ Q)) w9) := Lib.hid ⟨R1 ++ R2, (HHalf.out R1 R2 HR1.out.1 hp2 HR1.out.2.1 hs2).1, (HHalf.out R1 R2 HR1.out.1 hp2 HR1.out.2.1 hs2).2, by simpa [List.append_assoc] using hS2⟩
              clear hp2 hs2 hS2
              go_wp2
              go_end0
              exact ⟨rfl, HEnd.out⟩
            · have x6 : decide (en < b) = false := decide_eq_false e6
              have HEnd : Hid (∃ R, R.Perm (A ++ B) ∧ Sorted' R ∧ SR W g (P ++ (R ++ Q)) w7) := Lib.hid (by
                have h0 : B2 = [] := List.eq_nil_of_length_eq_zero (by have := HLn.out.2.2.2; omega)
                have h := HHalf.out R1 A2 HR1.out.1 (by rw [h0, List.append_nil]) HR1.out.2.1 HSt.out.2.1
                have h2 := HR1.out.2.2
                rw [h0] at h2
                exact ⟨_, h.1, h.2, by simpa [List.append_assoc] using h2⟩)
              go_wp2
              go_end0
              exact ⟨rfl, HEnd.out⟩
          · have x5 : decide (mid < en) = false := decide_eq_false e5
            have HEnd : Hid (∃ R, R.Perm (A ++ B) ∧ Sorted' R ∧ SR W g (P ++ (R ++ Q)) w7) := Lib.hid (by
              have h0 : A2 = [] := List.eq_nil_of_length_eq_zero (by have := HLn.out.2.1; omega)
              have h := HHalf.out R1 B2 HR1.out.1 (by rw [h0, List.nil_append]) HR1.out.2.1 HSt.out.2.2.2
              have h2 := HR1.out.2.2
              rw [h0] at h2
              exact ⟨_, h.1, h.2, by simpa [List.append_assoc] using h2⟩)
            go_wp2
            go_end0
            exact ⟨rfl, HEnd.out⟩
      · have x2 : decide (m < en) = false := decide_eq_false e2
        have HRow2 : Hid (SR W g (P ++ (A1 ++ (B1 ++ (A2 ++ (B2 ++ Q))))) wr) := Lib.hid (by
          have : B1 = [] := List.eq_nil_of_length_eq_zero (by have := HLn.out.2.2.1; omega)
          have h := HRow.out.1
          rw [this] at h ⊢
          exact h)
        clear HRow
        by_cases e3 : a < i
        · have x3 : decide (a < i) = true := decide_eq_true e3
          by_cases e4 : i < mid
          · have x4 : decide (i < mid) = true := decide_eq_true e4
            have HC := Lib.hid (IH.out P A1 B1 (A2 ++ (B2 ++ Q)) a i mid wr (by have h1 := HLn.out.1; have h2 := HLn.out.2.2.1; have h3 := HA.out; omega) (by have := HLn.out.1; omega) (by have := HLn.out.2.2.1; omega) (by have := HTot.out; simp only [List.length_append]; omega) HA.out.1 (by have := HLn.out.1; omega) (by have h2 := HLn.out.2.2.1; omega) HSt.out.1 HSt.out.2.2.1 HSm2.out.1 HRow2.out)
            go_wp2_with fail
            refine HC.out.mono ?_
            rintro e w8 ⟨rfl, R1, hp1, hs1, hS2⟩
            have HR1 := Lib.hid (show R1.Perm (A1 ++ B1) ∧ Sorted' R1 ∧ SR W g (P ++ (R1 ++ (A2 ++ (B2 ++ Q)))) w8 from ⟨hp1, hs1, hS2⟩)
            clear hp1 hs1 hS2 HRow2 HC
            have HL1 : Hid (R1.length = mid - a) := Lib.hid (by rw [HR1.out.1.length_eq, List.length_append, HLn.out.1, HLn.out.2.2.1]; omega)
            by_cases e5 : mid < en
            · have x5 : decide (mid < en) = true := decide_eq_true e5
              by_cases e6 : en < b
              · have x6 : decide (en < b) = true := decide_eq_true e6
                have HC := Lib.hid (IH.out (P ++ R1) A2 B2 Q mid en b w8 (by have h1 := HLn.out.2.1; have h2 := HLn.out.2.2.2; have h3 := HA.out; omega) (by have := HLn.out.2.1; omega) (by have := HLn.out.2.2.2; omega) (by have h0 := HTot.out; have h1 := HL1.out; have h2 := HLn.out; simp only [List.length_append]; omega) (by have h1 := HL1.out; have h2 := HA.out.1; rw [List.length_append]; omega) (by have := HLn.out.2.1; omega) (by have h2 := HLn.out.2.2.2; omega) HSt.out.2.1 HSt.out.2.2.2 HSm2.out.2 (by rw [List.append_assoc]; exact HR1.out.2.2))
                go_wp2_with fail
                refine HC.out.mono ?_
                rintro e w9 ⟨rfl, R2, hp2, hs2, hS2⟩
                have HEnd : Hid (∃ R, R.Perm (A ++ B) ∧ Sorted' R ∧ SR W g (P ++ (R ++ Q)) w9) := Lib.hid ⟨R1 ++ R2, (HHalf.out R1 R2 HR1.out.1 hp2 HR1.out.2.1 hs2).1, (HHalf.out R1 R2 HR1.out.1 hp2 HR1.out.2.1 hs2).2, by simpa [List.append_assoc] using hS2⟩
                clear hp2 hs2 hS2
                go_wp2
                go_end0
                exact ⟨rfl, HEnd.out⟩
              · have x6 : decide (en < b) = false := decide_eq_false e6
                have HEnd : Hid (∃ R, R.Perm (A ++ B) ∧ Sorted' R ∧ SR W g (P ++ (R ++ Q)) w8) := Lib.hid (by
                  have h0 : B2 = [] := List.eq_nil_of_length_eq_zero (by have := HLn.out.2.2.2; omega)
                  have h := HHalf.out R1 A2 HR1.out.1 (by rw [h0, List.append_nil]) HR1.out.2.1 HSt.out.2.1
                  have h2 := HR1.out.2.2
                  rw [h0] at h2
                  exact ⟨_, h.1, h.2, by simpa [List.append_assoc] using h2⟩)
                go_wp2
                go_end0
                exact ⟨rfl, HEnd.out⟩
            · have x5 : decide (mid < en) = false := decide_eq_false e5
              have HEnd : Hid (∃ R, R.Perm (A ++ B) ∧ Sorted' R ∧ SR W g (P ++ (R ++ Q)) w8) := Lib.hid (by
                have h0 : A2 = [] := List.eq_nil_of_length_eq_zero (by have := HLn.out.2.1; omega)
                have h := HHalf.out R1 B2 HR1.out.1 (by rw [h0, List.nil_append]) HR1.out.2.1 HSt.out.2.2.2
                have h2 := HR1.out.2.2
                rw [h0] at h2
                exact ⟨_, h.1, h.2, by simpa [List.append_assoc] using h2⟩)
              go_wp2
              go_end0
              exact ⟨rfl, HEnd.out⟩
          · have x4 : decide (i < mid) = false := decide_eq_false e4
            have HR1 : Hid (A1.Perm (A1 ++ B1) ∧ Sorted' A1 ∧ SR W g (P ++ (A1 ++ (A2 ++ (B2 ++ Q)))) wr) := Lib.hid (by
              have : B1 = [] := List.eq_nil_of_length_eq_zero (by have := HLn.out.2.2.1; omega)
              have h := HRow2.out
              rw [this] at h ⊢
              exact ⟨by rw [List.append_nil], HSt.out.1, h⟩)
            clear HRow2
            obtain ⟨R1, hR1⟩ : ∃ R1, R1 = A1 := ⟨_, rfl⟩
            have HR1 : Hid (R1.Perm (A1 ++ B1) ∧ Sorted' R1 ∧ SR W g (P ++ (R1 ++ (A2 ++ (B2 ++ Q)))) wr) := Lib.hid (by rw [hR1]; exact HR1.out)
            clear hR1
            have HL1 : Hid (R1.length = mid - a) := Lib.hid (by rw [HR1.out.1.length_eq, List.length_append, HLn.out.1, HLn.out.2.2.1]; omega)
            by_cases e5 : mid < en
            · have x5 : decide (mid < en) = true := decide_eq_true e5
              by_cases e6 : en < b
              · have x6 : decide (en < b) = true := decide_eq_true e6
                have HC := Lib.hid (IH.out (P ++ R1) A2 B2 Q mid en b wr (by have h1 := HLn.out.2.1; have h2 := HLn.out.2.2.2; have h3 := HA.out; omega) (by have := HLn.out.2.1; omega) (by have := HLn.out.2.2.2; omega) (by have h0 := HTot.out; have h1 := HL1.out; have h2 := HLn.out; simp only [List.length_append]; omega) (by have h1 := HL1.out; have h2 := HA.out.1; rw [List.length_append]; omega) (by have := HLn.out.2.1; omega) (by have h2 := HLn.out.2.2.2; omega) HSt.out.2.1 HSt.out.2.2.2 HSm2.out.2 (by rw [List.append_assoc]; exact HR1.out.2.2))
                go_wp2_with fail
                refine HC.out.mono ?_
                rintro e w9 ⟨rfl, R2, hp2, hs2, hS2⟩
                have HEnd : Hid (∃ R, R.Perm (A ++ B) ∧ Sorted' R ∧ SR W g (P ++ (R ++ Q)) w9) := Lib.hid ⟨R1 ++ R2, (HHalf.out R1 R2 HR1.out.1 hp2 HR1.out.2.1 hs2).1, (HHalf.out R1 R2 HR1.out.1 hp2 HR1.out.2.1 hs2).2, by simpa [List.append_assoc] using hS2⟩
                clear hp2 hs2 hS2
                go_wp2
                go_end0
                exact ⟨rfl, HEnd.out⟩
              · have x6 : decide (en < b) = false := decide_eq_false e6
                have HEnd : Hid (∃ R, R.Perm (A ++ B) ∧ Sorted' R ∧ SR W g (P ++ (R ++ Q)) wr) := Lib.hid (by
                  have h0 : B2 = [] := List.eq_nil_of_length_eq_zero (by have := HLn.out.2.2.2; omega)
                  have h := HHalf.out R1 A2 HR1.out.1 (by rw [h0, List.append_nil]) HR1.out.2.1 HSt.out.2.1
                  have h2 := HR1.out.2.2
                  rw [h0] at h2
                  exact ⟨_, h.1, h.2, by simpa [List.append_assoc] using h2⟩)
                go_wp2
                go_end0
                exact ⟨rfl, HEnd.out⟩
            · have x5 : decide (mid < en) = false := decide_eq_false e5
              have HEnd : Hid (∃ R, R.Perm (A ++ B) ∧ Sorted' R ∧ SR W g (P ++ (R ++ Q)) wr) := Lib.hid (by
                have h0 : A2 = [] := List.eq_nil_of_length_eq_zero (by have := HLn.out.2.1; omega)
                have h := HHalf.out R1 B2 HR1.out.1 (by rw [h0, List.nil_append]) HR1.out.2.1 HSt.out.2.2.2
                have h2 := HR1.out.2.2
                rw [h0] at h2
                exact ⟨_, h.1, h.2, by simpa [List.append_assoc] using h2⟩)
              go_wp2
              go_end0
              exact ⟨rfl, HEnd.out⟩
        · have x3 : decide (a < i) = false := decide_eq_false e3
          have HR1 : Hid (B1.Perm (A1 ++ B1) ∧ Sorted' B1 ∧ SR W g (P ++ (B1 ++ (A2 ++ (B2 ++ Q)))) wr) := Lib.hid (by
            have : A1 = [] := List.eq_nil_of_length_eq_zero (by have := HLn.out.1; omega)
            have h := HRow2.out
            rw [this] at h ⊢
            exact ⟨List.Perm.refl _, HSt.out.2.2.1, h⟩)
          clear HRow2
          obtain ⟨R1, hR1⟩ : ∃ R1, R1 = B1 := ⟨_, rfl⟩
          have HR1 : Hid (R1.Perm (A1 ++ B1) ∧ Sorted' R1 ∧ SR W g (P ++ (R1 ++ (A2 ++ (B2 ++ Q)))) wr) := Lib.hid (by rw [hR1]; exact HR1.out)
          clear hR1
          have HL1 : Hid (R1.length = mid - a) := Lib.hid (by rw [HR1.out.1.length_eq, List.length_append, HLn.out.1, HLn.out.2.2.1]; omega)
          by_cases e5 : mid < en
          · have x5 : decide (mid < en) = true := decide_eq_true e5
            by_cases e6 : en < b
            · have x6 : decide (en < b) = true := decide_eq_true e6
              have HC := Lib.hid (IH.out (P ++ R1) A2 B2 Q mid en b wr (by have h1 := HLn.out.2.1; have h2 := HLn.out.2.2.2; have h3 := HA.out; omega) (by have := HLn.out.2.1; omega) (by have := HLn.out.2.2.2; omega) (by have h0 := HTot.out; have h1 := HL1.out; have h2 := HLn.out; simp only [List.length_append]; omega) (by have h1 := HL1.out; have h2 := HA.out.1; rw [List.length_append]; omega) (by have := HLn.out.2.1; omega) (by have h2 := HLn.out.2.2.2; omega) HSt.out.2.1 HSt.out.2.2.2 HSm2.out.2 (by rw [List.append_assoc]; exact HR1.out.2.2))
              go_wp2_with fail
              refine HC.out.mono ?_
              rintro e w9 ⟨rfl, R2, hp2, hs2, hS2⟩
              have HEnd : Hid (∃ R, R.Perm (A ++ B) ∧ Sorted' R ∧ SR W g (P ++ (R ++ Q)) w9) := Lib.hid ⟨R1 ++ R2, (HHalf.out R1 R2 HR1.out.1 hp2 HR1.out.2.1 hs2).1, (HHalf.out R1 R2 HR1.out.1 hp2 HR1.out.2.1 hs2).2, by simpa [List.append_assoc] using hS2⟩
              clear hp2 hs2 hS2
              go_wp2
              go_end0
              exact ⟨rfl, HEnd.out⟩
            · have x6 : decide (en < b) = false := decide_eq_false e6
              have HEnd : Hid (∃ R, R.Perm (A ++ B) ∧ Sorted' R ∧ SR W g (P ++ (R ++ Q)) wr) := Lib.hid (by
                have h0 : B2 = [] := List.eq_nil_of_length_eq_zero (by have := HLn.out.2.2.2; omega)
                have h := HHalf.out R1 A2 HR1.out.1 (by rw [h0, List.append_nil]) HR1.out.2.1 HSt.out.2.1
                have h2 := HR1.out.2.2
                rw [h0] at h2
                exact ⟨_, h.1, h.2, by simpa [List.append_assoc] using h2⟩)
              go_wp2
              go_end0
              exact ⟨rfl, HEnd.out⟩
          · have x5 : decide (mid < en) = false := decide_eq_false e5
            have HEnd : Hid (∃ R, R.Perm (A ++ B) ∧ Sorted' R ∧ SR W g (P ++ (R ++ Q)) wr) := Lib.hid (by
              have h0 : A2 = [] := List.eq_nil_of_length_eq_zero (by have := HLn.out.2.1; omega)
              have h := HHalf.out R1 B2 HR1.out.1 (by rw [h0, List.nil_append]) HR1.out.2.1 HSt.out.2.2.2
              have h2 := HR1.out.2.2
              rw [h0] at h2
              exact ⟨_, h.1, h.2, by simpa [List.append_assoc] using h2⟩)
            go_wp2
            go_end0
            exact ⟨rfl, HEnd.out⟩
    · have x1 : decide (i < m) = false := decide_eq_false e1
      have HRow2 : Hid (SR W g (P ++ (A1 ++ (B1 ++ (A2 ++ (B2 ++ Q))))) wr) := Lib.hid (by
        have : A2 = [] := List.eq_nil_of_length_eq_zero (by have := HLn.out.2.1; omega)
        have h := HRow.out.1
        rw [this] at h ⊢
        exact h)
      clear HRow
      by_cases e3 : a < i
      · have x3 : decide (a < i) = true := decide_eq_true e3
        by_cases e4 : i < mid
        · have x4 : decide (i < mid) = true := decide_eq_true e4
          have HC := Lib.hid (IH.out P A1 B1 (A2 ++ (B2 ++ Q)) a i mid wr (by have h1 := HLn.out.1; have h2 := HLn.out.2.2.1; have h3 := HA.out; omega) (by have := HLn.out.1; omega) (by have := HLn.out.2.2.1; omega) (by have := HTot.out; simp only [List.length_append]; omega) HA.out.1 (by have := HLn.out.1; omega) (by have h2 := HLn.out.2.2.1; omega) HSt.out.1 HSt.out.2.2.1 HSm2.out.1 HRow2.out)
          go_wp2_with fail
          refine HC.out.mono ?_
          rintro e w8 ⟨rfl, R1, hp1, hs1, hS2⟩
          have HR1 := Lib.hid (show R1.Perm (A1 ++ B1) ∧ Sorted' R1 ∧ SR W g (P ++ (R1 ++ (A2 ++ (B2 ++ Q)))) w8 from ⟨hp1, hs1, hS2⟩)
          clear hp1 hs1 hS2 HRow2 HC
          have HL1 : Hid (R1.length = mid - a) := Lib.hid (by rw [HR1.out.1.length_eq, List.length_append, HLn.out.1, HLn.out.2.2.1]; omega)
          by_cases e5 : mid < en
          · have x5 : decide (mid < en) = true := decide_eq_true e5
            by_cases e6 : en < b
            · have x6 : decide (en < b) = true := decide_eq_true e6
              have HC := Lib.hid (IH.out (P ++ R1) A2 B2 Q mid en b w8 (by have h1 := HLn.out.2.1; have h2 := HLn.out.2.2.2; have h3 := HA.out; omega) (by have := HLn.out.2.1; omega) (by have := HLn.out.2.2.2; omega) (by have h0 := HTot.out; have h1 := HL1.out; have h2 := HLn.out; simp only [List.length_append]; omega) (by have h1 := HL1.out; have h2 := HA.out.1; rw [List.length_append]; omega) (by have := HLn.out.2.1; omega) (by have h2 := HLn.out.2.2.2; omega) HSt.out.2.1 HSt.out.2.2.2 HSm2.out.2 (by rw [List.append_assoc]; exact HR1.out.2.2))
              go_wp2_with fail
              refine HC.out.mono ?_
              rintro e w9 ⟨rfl, R2, hp2, hs2, hS2⟩
              have HEnd : Hid (∃ R, R.Perm (A ++ B) ∧ Sorted' R ∧ SR W g (P ++ (R ++ Q)) w9) := Lib.hid ⟨R1 ++ R2, (HHalf.out R1 R2 HR1.out.1 hp2 HR1.out.2.1 hs2).1, (HHalf.out R1 R2 HR1.out.1 hp2 HR1.out.2.1 hs2).2, by simpa [List.append_assoc] using hS2⟩
              clear hp2 hs2 hS2
              go_wp2
              go_end0
              exact ⟨rfl, HEnd.out⟩
            · have x6 : decide (en < b) = false := decide_eq_false e6
              have HEnd : Hid (∃ R, R.Perm (A ++ B) ∧ Sorted' R ∧ SR W g (P ++ (R ++ Q)) w8) := Lib.hid (by
                have h0 : B2 = [] := List.eq_nil_of_length_eq_zero (by have := HLn.out.2.2.2; omega)
                have h := HHalf.out R1 A2 HR1.out.1 (by rw [h0, List.append_nil]) HR1.out.2.1 HSt.out.2.1
                have h2 := HR1.out.2.2
                rw [h0] at h2
                exact ⟨_, h.1, h.2, by simpa [List.append_assoc] using h2⟩)
              go_wp2
              go_end0
              exact ⟨rfl, HEnd.out⟩
          · have x5 : decide (mid < en) = false := decide_eq_false e5
            have HEnd : Hid (∃ R, R.Perm (A ++ B) ∧ Sorted' R ∧ SR W g (P ++ (R ++ Q)) w8) := Lib.hid (by
              have h0 : A2 = [] := List.eq_nil_of_length_eq_zero (by have := HLn.out.2.1; omega)
              have h := HHalf.out R1 B2 HR1.out.1 (by rw [h0, List.nil_append]) HR1.out.2.1 HSt.out.2.2.2
              have h2 := HR1.out.2.2
              rw [h0] at h2
              exact ⟨_, h.1, h.2, by simpa [List.append_assoc] using h2⟩)
            go_wp2
            go_end0
            exact ⟨rfl, HEnd.out⟩
        · have x4 : decide (i < mid) = false := decide_eq_false e4
          have HR1 : Hid (A1.Perm (A1 ++ B1) ∧ Sorted' A1 ∧ SR W g (P ++ (A1 ++ (A2 ++ (B2 ++ Q)))) wr) := Lib.hid (by
            have : B1 = [] := List.eq_nil_of_length_eq_zero (by have := HLn.out.2.2.1; omega)
            have h := HRow2.out
            rw [this] at h ⊢
            exact ⟨by rw [List.append_nil], HSt.out.1, h⟩)
          clear HRow2
          obtain ⟨R1, hR1⟩ : ∃ R1, R1 = A1 := ⟨_, rfl⟩
          have HR1 : Hid (R1.Perm (A1 ++ B1) ∧ Sorted' R1 ∧ SR W g (P ++ (R1 ++ (A2 ++ (B2 ++ Q)))) wr) := Lib.hid (by rw [hR1]; exact HR1.out)
          clear hR1
          have HL1 : Hid (R1.length = mid - a) := Lib.hid (by rw [HR1.out.1.length_eq, List.length_append, HLn.out.1, HLn.out.2.2.1]; omega)
          by_cases e5 : mid < en
          · have x5 : decide (mid < en) = true := decide_eq_true e5
            by_cases e6 : en < b
            · have x6 : decide (en < b) = true := decide_eq_true e6
              have HC := Lib.hid (IH.out (P ++ R1) A2 B2 Q mid en b wr (by have h1 := HLn.out.2.1; have h2 := HLn.out.2.2.2; have h3 := HA.out; omega) (by have := HLn.out.2.1; omega) (by have := HLn.out.2.2.2; omega) (by have h0 := HTot.out; have h1 := HL1.out; have h2 := HLn.out; simp only [List.length_append]; omega) (by have h1 := HL1.out; have h2 := HA.out.1; rw [List.length_append]; omega) (by have := HLn.out.2.1; omega) (by have h2 := HLn.out.2.2.2; omega) HSt.out.2.1 HSt.out.2.2.2 HSm2.out.2 (by rw [List.append_assoc]; exact HR1.out.2.2))
              go_wp2_with fail
              refine HC.out.mono ?_
              rintro e w9 ⟨rfl, R2, hp2, hs2, hS2⟩
              have HEnd : Hid (∃ R, R.Perm (A ++ B) ∧ Sorted' R ∧ SR W g (P ++ (R ++ Q)) w9) := Lib.hid ⟨R1 ++ R2, (HHalf.out R1 R2 HR1.out.1 hp2 HR1.out.2.1 hs2).1, (HHalf.out R1 R2 HR1.out.1 hp2 HR1.out.2.1 hs2).2, by simpa [List.append_assoc] using hS2⟩
              clear hp2 hs2 hS2
              go_wp2
              go_end0
              exact ⟨rfl, HEnd.out⟩
            · have x6 : decide (en < b) = false := decide_eq_false e6
              have HEnd : Hid (∃ R, R.Perm (A ++ B) ∧ Sorted' R ∧ SR W g (P ++ (R ++ Q)) wr) := Lib.hid (by
                have h0 : B2 = [] := List.eq_nil_of_length_eq_zero (by have := HLn.out.2.2.2; omega)
                have h := HHalf.out R1 A2 HR1.out.1 (by rw [h0, List.append_nil]) HR1.out.2.1 HSt.out.2.1
                have h2 := HR1.out.2.2
                rw [h0] at h2
                exact ⟨_, h.1, h.2, by simpa [List.append_assoc] using h2⟩)
              go_wp2
              go_end0
              exact ⟨rfl, HEnd.out⟩
          · have x5 : decide (mid < en) = false := decide_eq_false e5
            have HEnd : Hid (∃ R, R.Perm (A ++ B) ∧ Sorted' R ∧ SR W g (P ++ (R ++ Q)) wr) := Lib.hid (by
              have h0 : A2 = [] := List.eq_nil_of_length_eq_zero (by have := HLn.out.2.1; omega)
              have h := HHalf.out R1 B2 HR1.out.1 (by rw [h0, List.nil_append]) HR1.out.2.1 HSt.out.2.2.2
              have h2 := HR1.out.2.2
              rw [h0] at h2
              exact ⟨_, h.1, h.2, by simpa [List.append_assoc] using h2⟩)
            go_wp2
            go_end0
            exact ⟨rfl, HEnd.out⟩
      · have x3 : decide (a < i) = false := decide_eq_false e3
        have HR1 : Hid (B1.Perm (A1 ++ B1) ∧ Sorted' B1 ∧ SR W g (P ++ (B1 ++ (A2 ++ (B2 ++ Q)))) wr) := Lib.hid (by
          have : A1 = [] := List.eq_nil_of_length_eq_zero (by have := HLn.out.1; omega)
          have h := HRow2.out
          rw [this] at h ⊢
          exact ⟨List.Perm.refl _, HSt.out.2.2.1, h⟩)
        clear HRow2
        obtain ⟨R1, hR1⟩ : ∃ R1, R1 = B1 := ⟨_, rfl⟩
        have HR1 : Hid (R1.Perm (A1 ++ B1) ∧ Sorted' R1 ∧ SR W g (P ++ (R1 ++ (A2 ++ (B2 ++ Q)))) wr) := Lib.hid (by rw [hR1]; exact HR1.out)
        clear hR1
        have HL1 : Hid (R1.length = mid - a) := Lib.hid (by rw [HR1.out.1.length_eq, List.length_append, HLn.out.1, HLn.out.2.2.1]; omega)
        by_cases e5 : mid < en
        · have x5 : decide (mid < en) = true := decide_eq_true e5
          by_cases e6 : en < b
          · have x6 : decide (en < b) = true := decide_eq_true e6
            have HC := Lib.hid (IH.out (P ++ R1) A2 B2 Q mid en b wr (by have h1 := HLn.out.2.1; have h2 := HLn.out.2.2.2; have h3 := HA.out; omega) (by have := HLn.out.2.1; omega) (by have := HLn.out.2.2.2; omega) (by have h0 := HTot.out; have h1 := HL1.out; have h2 := HLn.out; simp only [List.length_append]; omega) (by have h1 := HL1.out; have h2 := HA.out.1; rw [List.length_append]; omega) (by have := HLn.out.2.1; omega) (by have h2 := HLn.out.2.2.2; omega) HSt.out.2.1 HSt.out.2.2.2 HSm2.out.2 (by rw [List.append_assoc]; exact HR1.out.2.2))
            go_wp2_with fail
            refine HC.out.mono ?_
            rintro e w9 ⟨rfl, R2, hp2, hs2, hS2⟩
            have HEnd : Hid (∃ R, R.Perm (A ++ B) ∧ Sorted' R ∧ SR W g (P ++ (R ++ Q)) w9) := Lib.hid ⟨R1 ++ R2, (HHalf.out R1 R2 HR1.out.1 hp2 HR1.out.2.1 hs2).1, (HHalf.out R1 R2 HR1.out.1 hp2 HR1.out.2.1 hs2).2, by simpa [List.append_assoc] using hS2⟩
            clear hp2 hs2 hS2
            go_wp2
            go_end0
            exact ⟨rfl, HEnd.out⟩
          · have x6 : decide (en < b) = false := decide_eq_false e6
            have HEnd : Hid (∃ R, R.Perm (A ++ B) ∧ Sorted' R ∧ SR W g (P ++ (R ++ Q)) wr) := Lib.hid (by
              have h0 : B2 = [] := List.eq_nil_of_length_eq_zero (by have := HLn.out.2.2.2; omega)
              have h := HHalf.out R1 A2 HR1.out.1 (by rw [h0, List.append_nil]) HR1.out.2.1 HSt.out.2.1
              have h2 := HR1.out.2.2
              rw [h0] at h2
              exact ⟨_, h.1, h.2, by simpa [List.append_assoc] using h2⟩)
            go_wp2
            go_end0
            exact ⟨rfl, HEnd.out⟩
        · have x5 : decide (mid < en) = false := decide_eq_false e5
          have HEnd : Hid (∃ R, R.Perm (A ++ B) ∧ Sorted' R ∧ SR W g (P ++ (R ++ Q)) wr) := Lib.hid (by
            have h0 : A2 = [] := List.eq_nil_of_length_eq_zero (by have := HLn.out.2.1; omega)
            have h := HHalf.out R1 B2 HR1.out.1 (by rw [h0, List.nil_append]) HR1.out.2.1 HSt.out.2.2.2
            have h2 := HR1.out.2.2
            rw [h0] at h2
            exact ⟨_, h.1, h.2, by simpa [List.append_assoc] using h2⟩)
          go_wp2
          go_end0
          exact ⟨rfl, HEnd.out⟩
end Go.Proofs.YtnplommdgfgboaaGreatDoor.SortW
