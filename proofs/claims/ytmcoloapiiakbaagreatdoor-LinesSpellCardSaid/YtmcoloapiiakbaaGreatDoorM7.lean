/-
  Texts of the claim, one behind the other: Compact3, Sort, Put, RefSort, Same, RefPrint, LSort, ParseP, MapT, Parse, LBack, AppG.
-/
import Derived.Test.YtmcoloapiiakbaaGreatDoorM6
import Derived.Lib.IndexMore
import Derived.MapKept
import Derived.WideKeyRuns
import Derived.Lib.CutLaws
/-
  slices.CompactFunc of triples, walked: the walk.
-/
set_option linter.unusedVariables false
set_option linter.unusedSimpArgs false
namespace Go.Proofs.YtmcoloapiiakbaaGreatDoor.SortW
open Go.RowKit Go.Lib Go.Proofs.YtmcoloapiiakbaaGreatDoor.B Go.Proofs.YtmcoloapiiakbaaGreatDoor.Rd Go.Proofs.YtmcoloapiiakbaaGreatDoor.Utf Go.Proofs.YtmcoloapiiakbaaGreatDoor.TermPure Go.Proofs.YtmcoloapiiakbaaGreatDoor.LinesPure Go.Proofs.YtmcoloapiiakbaaGreatDoor.Tx Go.Proofs.YtmcoloapiiakbaaGreatDoor.Env Go.Proofs.YtmcoloapiiakbaaGreatDoor.Tri Go.Proofs.YtmcoloapiiakbaaGreatDoor.SortP Go.Proofs.YtmcoloapiiakbaaGreatDoor.Print Go.Proofs.YtmcoloapiiakbaaGreatDoor.Cmp Go.Proofs.YtmcoloapiiakbaaGreatDoor.Long

theorem run_cutk (w : World) (g L cap k : Nat) (hk : k < L) (hc : L ≤ cap) : (Instr.slice 31 (.slice (some ⟨g, 0, none⟩) L cap) (some (.int .i64 (k : Int))) none none).run Tryz.prog w = .ok (.slice (some ⟨g, k * 9, none⟩) (L - k) (cap - k)) w := by
  have hu : (Tryz.prog).underlying 31 = some (.slice ((Tryz.prog).elem 31)) := by
    have := Tryz.underlying31
    simp [Program.elem, this]
  have hs : ∀ w, (sizeOf 25).run Tryz.prog w = .ok 9 w := Tryz.sizeOf25
  have he : (Tryz.prog).elem 31 = 25 := by simp [Program.elem, Tryz.underlying31]
  rw [run_slice_l w _ _ L cap hu .i64 (k : Int) (by omega) (by omega), he, hs]
  have : ¬ cap = k := by omega
  simp [sliced, Result.andThen, this, Addr.add_lit]
theorem run_takek (w : World) (g L cap k : Nat) (hk : k ≤ L) (hk0 : 0 < L) (hc : L ≤ cap) : (Instr.slice 31 (.slice (some ⟨g, 0, none⟩) L cap) none (some (.int .i64 (k : Int))) none).run Tryz.prog w = .ok (.slice (some ⟨g, 0, none⟩) k cap) w := by
  have hu : (Tryz.prog).underlying 31 = some (.slice ((Tryz.prog).elem 31)) := by
    have := Tryz.underlying31
    simp [Program.elem, this]
  have hs : ∀ w, (sizeOf 25).run Tryz.prog w = .ok 9 w := Tryz.sizeOf25
  have he : (Tryz.prog).elem 31 = 25 := by simp [Program.elem, Tryz.underlying31]
  rw [run_slice_h w _ _ L cap hu .i64 (k : Int) (by omega) (by omega), he, hs]
  have : ¬ cap = 0 := by omega
  simp [sliced, Result.andThen, this, Addr.add_lit]
theorem setCells_frozen (g : Nat) : ∀ (vs : List Value) (o : Nat) (w : World) (a : Addr), (w.setCells g o vs).frozen? a = w.frozen? a
  | [], _, _, _ => rfl
  | v :: vs, o, w, a => by
    rw [World.setCells, setCells_frozen g vs (o + 1) _ a, World.frozen?_setCell]
theorem setCells_far (g : Nat) : ∀ (vs : List Value) (o : Nat) (w : World) (q : Nat), q < o → (w.setCells g o vs).cell? ⟨g, q, none⟩ = w.cell? ⟨g, q, none⟩
  | [], _, _, _, _ => rfl
  | v :: vs, o, w, q, h => by
    rw [World.setCells, setCells_far g vs (o + 1) _ q (by omega)]
    rw [World.cell?_setCell_other _ _ _ _ (by simp; try omega)]
theorem take_set_lt (l : List Triple) (k : Nat) (x : Triple) (hk : k < l.length) : (l.set k x).take (k + 1) = l.take k ++ [x] := by
  rw [List.take_succ_eq_append_getElem (by simpa using hk), List.getElem_set_self, List.take_set_of_le (Nat.le_refl k)]

/-- What lies in the row as the second loop has come to j. -/
structure CI (R l' : List Triple) (L k j : Nat) : Prop where
  len : l'.length = L
  head : l'.take k = compactT (R.take j)
  tail : ∀ q, k ≤ q → l'[q]? = R[q]?
theorem CI.start {R : List Triple} {L k : Nat} (hL : R.length = L) (h1 : 1 ≤ k) (hk : k < L) (hne : ∀ i (h : i < R.length), 1 ≤ i → i < k → cmpT R[i] (R[i - 1]'(by omega)) ≠ 0) (he : cmpT (R[k]'(by omega)) (R[k - 1]'(by omega)) = 0) : CI R R L k (k + 1) :=
  ⟨hL, by rw [compact_take R k h1 (by omega), if_pos he, List.append_nil, compact_same R k h1 (by omega) hne], fun q _ => rfl⟩
theorem CI.same {R l' : List Triple} {L k j : Nat} (h : CI R l' L k j) (hL : R.length = L) (h1 : 1 ≤ j) (hj : j < L) (he : cmpT (R[j]'(by omega)) (R[j - 1]'(by omega)) = 0) : CI R l' L k (j + 1) :=
  ⟨h.len, by rw [compact_take R j h1 (by omega), if_pos he, List.append_nil]; exact h.head, h.tail⟩
theorem CI.put {R l' : List Triple} {L k j : Nat} (h : CI R l' L k j) (hL : R.length = L) (h1 : 1 ≤ j) (hj : j < L) (hk : k < L) (he : ¬ cmpT (R[j]'(by omega)) (R[j - 1]'(by omega)) = 0) : CI R (l'.set k (R[j]'(by omega))) L (k + 1) (j + 1) :=
  ⟨by rw [List.length_set]; exact h.len, by rw [compact_take R j h1 (by omega), if_neg he, take_set_lt _ _ _ (by rw [h.len]; exact hk), h.head], fun q hq => by
    rw [List.getElem?_set_ne (by omega)]; exact h.tail q (by omega)⟩
set_option maxHeartbeats 25600000 in
set_option maxRecDepth 100000 in
theorem compact_calls (R : List Triple) (L cap : Nat) (hL : R.length = L) (hc : L ≤ cap) (hLs : L ≤ 70368744177664) (hcM : cap ≤ maxLen) (hsm : ∀ t ∈ R, SmallT t) (g : Nat) (W w : World) (hS : SR W g R w) :
    Calls Tryz.prog 41 #[.slice (some ⟨g, 0, none⟩) L cap, eqV] w fun e w' => e = .returned (.slice (some ⟨g, 0, none⟩) (compactT R).length cap) ∧ SR W g (compactT R) w' := by
  have HSm : Hid (∀ j (h : j < R.length), SmallT R[j]) := Lib.hid (fun j h => hsm _ (List.getElem_mem h))
  have HL : Hid (R.length = L) := Lib.hid hL
  have HS0 := Lib.hid hS
  by_cases hL2 : L < 2
  · have hd : decide (L < 2) = true := decide_eq_true hL2
    have HE : Hid (compactT R = R) := Lib.hid (by
      rcases R with _ | ⟨a, _ | ⟨b, R⟩⟩
      · rfl
      · rfl
      · simp at hL; omega)
    rw [HE.out]
    have HV : Hid (SR W g R w) := Lib.hid hS
    clear hS hsm hL HE
    unfold eqV
    go_enter Tryz.func41, Tryz.ntmps41
    go_wp2
    go_ret
    exact ⟨by rw [HL.out]; rfl, HV.out⟩
  have hd : decide (L < 2) = false := decide_eq_false hL2
  clear hS hsm hL
  unfold eqV
  go_enter Tryz.func41, Tryz.ntmps41
  go_wp2
  go_loopw [5] (fun vk wr => ∃ k : Nat, vk = .int .i64 k ∧ 1 ≤ k ∧ k ≤ L ∧ Hid ((∀ i (h : i < R.length), 1 ≤ i → i < k → cmpT R[i] (R[i - 1]'(by omega)) ≠ 0) ∧ SR W g R wr)) (fun vk _ => L - (intOf vk).toNat)
  case atStart => exact ⟨1, by go_num, by omega, by omega, Lib.hid ⟨fun i h h1 h2 => by omega, HS0.out⟩⟩
  case round =>
    obtain ⟨k, rfl, hk1, hkL, HR⟩ := hrel
    clear HS0
    by_cases hlt : k < L
    · have hdk : decide (k < L) = true := decide_eq_true hlt
      obtain ⟨kp, hkp⟩ : ∃ kp, kp = k - 1 := ⟨_, rfl⟩
      have hwk : IntKind.i64.wrap ((k : Int) - 1) = (kp : Int) := by rw [IntKind.wrap_i64]; omega
      have jk : (k : Int) < (L : Int) := by omega
      have jkp : (kp : Int) < (L : Int) := by omega
      obtain ⟨x, hx⟩ : ∃ x, x = R[k]'(by rw [HL.out]; exact hlt) := ⟨_, rfl⟩
      obtain ⟨y, hy⟩ : ∃ y, y = R[k - 1]'(by rw [HL.out]; omega) := ⟨_, rfl⟩
      have hcx := HR.out.2.cells k (by rw [HL.out]; exact hlt)
      have hcy := HR.out.2.cells kp (by rw [HL.out]; omega)
      rw [show R[kp]'(by rw [HL.out]; omega) = y by rw [hy]; congr 1] at hcy
      rw [← hx] at hcx
      have hgl : g < wr.heap.size := hcx.lt
      have HBk : Hid (∀ w2, Below wr.heap.size wr w2 → SR W g R w2) := Lib.hid (fun w2 hb => HR.out.2.below hgl hb)
      have HCC := Lib.hid (fun w => eq_calls x y (by rw [hx]; exact HSm.out _ _) (by rw [hy]; exact HSm.out _ _) w)
      by_cases hv : cmpT x y = 0
      · have HC : Hid (∀ w, Calls Tryz.prog 42 #[Ref5.tripleV x, Ref5.tripleV y] w fun e w' => e = .returned (.bool true) ∧ Below w.heap.size w w') := Lib.hid (fun w => by
          have := HCC.out w
          rwa [decide_eq_true hv] at this)
        have HI0 : Hid (CI R R L k (k + 1)) := Lib.hid (CI.start HL.out hk1 hlt HR.out.1 (by rw [← hx, ← hy]; exact hv))
        clear HCC hv hx hy hkp
        obtain ⟨n, hn⟩ : ∃ n, n = L - k := ⟨_, rfl⟩
        obtain ⟨c2, hc2⟩ : ∃ c2, c2 = cap - k := ⟨_, rfl⟩
        have HSl : ∀ w, (Instr.slice 31 (.slice (some ⟨g, 0, none⟩) L cap) (some (.int .i64 (k : Int))) none none).run Tryz.prog w = .ok (.slice (some ⟨g, k * 9, none⟩) n c2) w := fun w => by rw [hn, hc2]; exact run_cutk w g L cap k hlt hc
        have HN := Lib.hid hn
        have hnL : k + n ≤ L := by omega
        clear hc2 hn
        obtain ⟨⟨sk, sx, se⟩, ⟨pk, px, pe⟩, ⟨ok, ox, oe⟩⟩ := x
        obtain ⟨⟨sk', sx', se'⟩, ⟨pk', px', pe'⟩, ⟨ok', ox', oe'⟩⟩ := y
        have x0 := fun p => (hcx.bel p).c0
        have x1 := fun p => (hcx.bel p).c1
        have x2 := fun p => (hcx.bel p).c2
        have x3 := fun p => (hcx.bel p).c3
        have x4 := fun p => (hcx.bel p).c4
        have x5 := fun p => (hcx.bel p).c5
        have x6 := fun p => (hcx.bel p).c6
        have x7 := fun p => (hcx.bel p).c7
        have x8 := fun p => (hcx.bel p).c8
        have y0 := fun p => (hcy.bel p).c0
        have y1 := fun p => (hcy.bel p).c1
        have y2 := fun p => (hcy.bel p).c2
        have y3 := fun p => (hcy.bel p).c3
        have y4 := fun p => (hcy.bel p).c4
        have y5 := fun p => (hcy.bel p).c5
        have y6 := fun p => (hcy.bel p).c6
        have y7 := fun p => (hcy.bel p).c7
        have y8 := fun p => (hcy.bel p).c8
        dsimp only at x0 x1 x2 x3 x4 x5 x6 x7 x8 y0 y1 y2 y3 y4 y5 y6 y7 y8
        unfold Ref5.tripleV at HC
        dsimp only at HC
        go_upto_region 6 with fail
        refine QT.region_all (by kernel_rfl) (by kernel_rfl) ?_
        iterate 10 (go_big_quiet_step (fail))
        go_big_quiet_step (exact QT.Bel.call _ (HC.out _))
        refine wpQuiet_nil ?_
        intro w2 hw'
        obtain ⟨⟨_, hb⟩, rfl⟩ := hw'
        have HS1 := Lib.hid (HBk.out w2 hb)
        clear hb x0 x1 x2 x3 x4 x5 x6 x7 x8 y0 y1 y2 y3 y4 y5 y6 y7 y8 hcx hcy HBk HR
        have hk1L : k + 1 ≤ L := by omega
        go_wp2
        go_loopw [5, 7] (fun vk vm wx => ∃ (k1 m : Nat) (l' : List Triple), vk = .int .i64 k1 ∧ vm = .int .i64 m ∧ k ≤ k1 ∧ 1 ≤ m ∧ k1 < k + m ∧ k + m ≤ L ∧ Hid (CI R l' L k1 (k + m) ∧ SR W g l' wx)) (fun _ vm _ => L - (intOf vm).toNat)
        case atStart => exact ⟨k, 1, R, rfl, by go_num, by omega, by omega, by omega, by omega, Lib.hid ⟨HI0.out, HS1.out⟩⟩
        case round =>
          obtain ⟨k1, m, l', rfl, rfl, hkk, hm1, hkm, hmL, HR⟩ := hrel
          clear HI0 HS1
          by_cases hlt2 : m < n
          · have hd2 : decide (m < n) = true := decide_eq_true hlt2
            have jm : (m : Int) < (n : Int) := by omega
            obtain ⟨mp, hmp⟩ : ∃ mp, mp = m - 1 := ⟨_, rfl⟩
            have hwm : IntKind.i64.wrap ((m : Int) - 1) = (mp : Int) := by rw [IntKind.wrap_i64]; omega
            have jmp : (mp : Int) < (n : Int) := by omega
            have hjL : k + m < L := by have := HN.out; omega
            obtain ⟨x, hx⟩ : ∃ x, x = R[k + m]'(by rw [HL.out]; exact hjL) := ⟨_, rfl⟩
            obtain ⟨y, hy⟩ : ∃ y, y = R[k + m - 1]'(by rw [HL.out]; omega) := ⟨_, rfl⟩
            have hcx : C9 wr g (k * 9 + m * 9) x := by
              rw [← Nat.add_mul]
              exact HR.out.2.at (by rw [HR.out.1.tail (k + m) (by omega), hx]; exact List.getElem?_eq_getElem _)
            have hcy : C9 wr g (k * 9 + mp * 9) y := by
              rw [← Nat.add_mul, show k + mp = k + m - 1 by omega]
              exact HR.out.2.at (by rw [HR.out.1.tail (k + m - 1) (by omega), hy]; exact List.getElem?_eq_getElem _)
            have hgl : g < wr.heap.size := hcx.lt
            have HBk : Hid (∀ w2, Below wr.heap.size wr w2 → SR W g l' w2) := Lib.hid (fun w2 hb => HR.out.2.below hgl hb)
            have HCC := Lib.hid (fun w => eq_calls x y (by rw [hx]; exact HSm.out _ _) (by rw [hy]; exact HSm.out _ _) w)
            by_cases hv : cmpT x y = 0
            · have HC : Hid (∀ w, Calls Tryz.prog 42 #[Ref5.tripleV x, Ref5.tripleV y] w fun e w' => e = .returned (.bool true) ∧ Below w.heap.size w w') := Lib.hid (fun w => by
                have := HCC.out w
                rwa [decide_eq_true hv] at this)
              have HI1 : Hid (CI R l' L k1 (k + (m + 1))) := Lib.hid (HR.out.1.same HL.out (by omega) hjL (by rw [← hx, ← hy]; exact hv))
              clear HCC hv hx hy hmp
              obtain ⟨⟨sk, sx, se⟩, ⟨pk, px, pe⟩, ⟨ok, ox, oe⟩⟩ := x
              obtain ⟨⟨sk', sx', se'⟩, ⟨pk', px', pe'⟩, ⟨ok', ox', oe'⟩⟩ := y
              have x0 := fun p => (hcx.bel p).c0
              have x1 := fun p => (hcx.bel p).c1
              have x2 := fun p => (hcx.bel p).c2
              have x3 := fun p => (hcx.bel p).c3
              have x4 := fun p => (hcx.bel p).c4
              have x5 := fun p => (hcx.bel p).c5
              have x6 := fun p => (hcx.bel p).c6
              have x7 := fun p => (hcx.bel p).c7
              have x8 := fun p => (hcx.bel p).c8
              have y0 := fun p => (hcy.bel p).c0
              have y1 := fun p => (hcy.bel p).c1
              have y2 := fun p => (hcy.bel p).c2
              have y3 := fun p => (hcy.bel p).c3
              have y4 := fun p => (hcy.bel p).c4
              have y5 := fun p => (hcy.bel p).c5
              have y6 := fun p => (hcy.bel p).c6
              have y7 := fun p => (hcy.bel p).c7
              have y8 := fun p => (hcy.bel p).c8
              dsimp only at x0 x1 x2 x3 x4 x5 x6 x7 x8 y0 y1 y2 y3 y4 y5 y6 y7 y8
              unfold Ref5.tripleV at HC
              dsimp only at HC
              go_upto_region 11 with fail
              refine QT.region_all (by kernel_rfl) (by kernel_rfl) ?_
              iterate 10 (go_big_quiet_step (fail))
              go_big_quiet_step (exact QT.Bel.call _ (HC.out _))
              iterate 1 (go_big_quiet_step (fail))
              refine wpQuiet_nil ?_
              intro w2 hw'
              obtain ⟨⟨_, hb⟩, rfl⟩ := hw'
              have HS1 := Lib.hid (HBk.out w2 hb)
              clear hb x0 x1 x2 x3 x4 x5 x6 x7 x8 y0 y1 y2 y3 y4 y5 y6 y7 y8 hcx hcy HBk HR
              go_wp2
              go_roundw
              case rel => exact ⟨k1, m + 1, l', rfl, by go_num, by omega, by omega, by omega, by omega, Lib.hid ⟨HI1.out, HS1.out⟩⟩
              case measure => simp [intOf]; omega
            · have HC : Hid (∀ w, Calls Tryz.prog 42 #[Ref5.tripleV x, Ref5.tripleV y] w fun e w' => e = .returned (.bool false) ∧ Below w.heap.size w w') := Lib.hid (fun w => by
                have := HCC.out w
                rwa [decide_eq_false hv] at this)
              have HI1 : Hid (CI R (l'.set k1 x) L (k1 + 1) (k + (m + 1))) := Lib.hid (by
                have := HR.out.1.put HL.out (by omega) hjL (by omega) (by rw [← hx, ← hy]; exact hv)
                rw [← hx] at this
                exact this)
              have jk1 : (k1 : Int) < (L : Int) := by omega
              have HPut : Hid (∀ w2, SR W g l' w2 → SR W g (l'.set k1 x) (put9 w2 g (k1 * 9) x)) := Lib.hid (fun w2 h => h.set k1 (by rw [HR.out.1.len]; omega) x)
              have HFree : Hid (∀ w2, SR W g l' w2 → (∀ d, d < 9 → w2.frozen? ⟨g, k1 * 9 + d, none⟩ = false)) := Lib.hid (fun w2 hS2 d hd => hS2.free _ (by rw [HR.out.1.len]; omega))
              have HOld : Hid (∃ z, ∀ w2, SR W g l' w2 → C9 w2 g (k1 * 9) z) := Lib.hid ⟨l'[k1]'(by rw [HR.out.1.len]; omega), fun w2 h => h.cells k1 _⟩
              clear HCC hv hx hy hmp
              obtain ⟨⟨sk, sx, se⟩, ⟨pk, px, pe⟩, ⟨ok, ox, oe⟩⟩ := x
              obtain ⟨⟨sk', sx', se'⟩, ⟨pk', px', pe'⟩, ⟨ok', ox', oe'⟩⟩ := y
              have x0 := fun p => (hcx.bel p).c0
              have x1 := fun p => (hcx.bel p).c1
              have x2 := fun p => (hcx.bel p).c2
              have x3 := fun p => (hcx.bel p).c3
              have x4 := fun p => (hcx.bel p).c4
              have x5 := fun p => (hcx.bel p).c5
              have x6 := fun p => (hcx.bel p).c6
              have x7 := fun p => (hcx.bel p).c7
              have x8 := fun p => (hcx.bel p).c8
              have y0 := fun p => (hcy.bel p).c0
              have y1 := fun p => (hcy.bel p).c1
              have y2 := fun p => (hcy.bel p).c2
              have y3 := fun p => (hcy.bel p).c3
              have y4 := fun p => (hcy.bel p).c4
              have y5 := fun p => (hcy.bel p).c5
              have y6 := fun p => (hcy.bel p).c6
              have y7 := fun p => (hcy.bel p).c7
              have y8 := fun p => (hcy.bel p).c8
              dsimp only at x0 x1 x2 x3 x4 x5 x6 x7 x8 y0 y1 y2 y3 y4 y5 y6 y7 y8
              unfold Ref5.tripleV at HC
              dsimp only at HC
              go_upto_region 11 with fail
              refine QT.region_all (by kernel_rfl) (by kernel_rfl) ?_
              iterate 10 (go_big_quiet_step (fail))
              go_big_quiet_step (exact QT.Bel.call _ (HC.out _))
              iterate 1 (go_big_quiet_step (fail))
              refine wpQuiet_nil ?_
              intro w2 hw'
              obtain ⟨⟨_, hb⟩, rfl⟩ := hw'
              have HS2 := Lib.hid (HBk.out w2 hb)
              have HSW := Lib.hid (HPut.out w2 HS2.out)
              unfold put9 at HSW
              dsimp only at HSW
              have f0 := HFree.out w2 HS2.out 0 (by omega)
              have f1 := HFree.out w2 HS2.out 1 (by omega)
              have f2 := HFree.out w2 HS2.out 2 (by omega)
              have f3 := HFree.out w2 HS2.out 3 (by omega)
              have f4 := HFree.out w2 HS2.out 4 (by omega)
              have f5 := HFree.out w2 HS2.out 5 (by omega)
              have f6 := HFree.out w2 HS2.out 6 (by omega)
              have f7 := HFree.out w2 HS2.out 7 (by omega)
              have f8 := HFree.out w2 HS2.out 8 (by omega)
              obtain ⟨z, hz⟩ := HOld.out
              have z0 := (hz w2 HS2.out).c0
              have z1 := (hz w2 HS2.out).c1
              have z2 := (hz w2 HS2.out).c2
              have z3 := (hz w2 HS2.out).c3
              have z4 := (hz w2 HS2.out).c4
              have z5 := (hz w2 HS2.out).c5
              have z6 := (hz w2 HS2.out).c6
              have z7 := (hz w2 HS2.out).c7
              have z8 := (hz w2 HS2.out).c8
              simp only [Nat.add_zero] at f0
              have a0 := (hcx.below hb).c0
              have a1 := (hcx.below hb).c1
              have a2 := (hcx.below hb).c2
              have a3 := (hcx.below hb).c3
              have a4 := (hcx.below hb).c4
              have a5 := (hcx.below hb).c5
              have a6 := (hcx.below hb).c6
              have a7 := (hcx.below hb).c7
              have a8 := (hcx.below hb).c8
              clear hb x0 x1 x2 x3 x4 x5 x6 x7 x8 y0 y1 y2 y3 y4 y5 y6 y7 y8 hcx hcy HBk HR hz
              dsimp only at a0 a1 a2 a3 a4 a5 a6 a7 a8
              go_wp2
              go_roundw
              case rel => exact ⟨k1 + 1, m + 1, _, by go_num, by go_num, by omega, by omega, by omega, by omega, Lib.hid ⟨HI1.out, HSW.out⟩⟩
              case measure => simp [intOf]; omega
          · have hd2 : decide (m < n) = false := decide_eq_false hlt2
            have hk1L2 : k1 < L := by omega
            have HEnd : Hid (compactT R = l'.take k1) := Lib.hid (by
              have := HR.out.1.head
              rw [List.take_of_length_le (l := R) (by rw [HL.out]; have := HN.out; omega)] at this
              exact this.symm)
            obtain ⟨n2, hn2⟩ : ∃ n2, n2 = L - k1 := ⟨_, rfl⟩
            obtain ⟨c3, hc3⟩ : ∃ c3, c3 = cap - k1 := ⟨_, rfl⟩
            have HSl2 : ∀ w, (Instr.slice 31 (.slice (some ⟨g, 0, none⟩) L cap) (some (.int .i64 (k1 : Int))) none none).run Tryz.prog w = .ok (.slice (some ⟨g, k1 * 9, none⟩) n2 c3) w := fun w => by rw [hn2, hc3]; exact run_cutk w g L cap k1 hk1L2 hc
            have HSl3 : ∀ w, (Instr.slice 31 (.slice (some ⟨g, 0, none⟩) L cap) none (some (.int .i64 (k1 : Int))) none).run Tryz.prog w = .ok (.slice (some ⟨g, 0, none⟩) k1 cap) w := fun w => run_takek w g L cap k1 (by omega) (by omega) hc
            have HLl : l'.length = L := HR.out.1.len
            obtain ⟨Z, hZ⟩ : ∃ Z, Z = (Builtin.zeroCells zeroV.cells n2).toList := ⟨_, rfl⟩
            have HClr : ∀ ty, (Builtin.clear_ #[31] ty #[.slice (some ⟨g, k1 * 9, none⟩) n2 c3]).run Tryz.prog wr = .ok (.tuple #[]) (wr.setCells g (k1 * 9) Z) := fun ty => by
              rw [hZ]
              refine run_clear wr ty g (k1 * 9) n2 c3 (by omega) (fun j hj => ?_) (fun j hj => ?_)
              · obtain ⟨q, d, hd, he⟩ : ∃ q d, d < 9 ∧ k1 * 9 + j = q * 9 + d := ⟨(k1 * 9 + j) / 9, (k1 * 9 + j) % 9, Nat.mod_lt _ (by omega), by omega⟩
                rw [he]
                have hq : q < l'.length := by omega
                obtain ⟨c0, c1, c2, c3, c4, c5, c6, c7, c8⟩ := HR.out.2.cells q hq
                rcases (by omega : d = 0 ∨ d = 1 ∨ d = 2 ∨ d = 3 ∨ d = 4 ∨ d = 5 ∨ d = 6 ∨ d = 7 ∨ d = 8) with h | h | h | h | h | h | h | h | h <;> subst h
                · rw [show q * 9 + 0 = q * 9 from rfl, c0]; rfl
                · rw [c1]; rfl
                · rw [c2]; rfl
                · rw [c3]; rfl
                · rw [c4]; rfl
                · rw [c5]; rfl
                · rw [c6]; rfl
                · rw [c7]; rfl
                · rw [c8]; rfl
              · exact HR.out.2.free _ (by omega)
            have HV : Hid ((compactT R).length = k1 ∧ SR W g (compactT R) (wr.setCells g (k1 * 9) Z)) := Lib.hid (by
              have hlen : (compactT R).length = k1 := by rw [HEnd.out, List.length_take]; omega
              refine ⟨hlen, HR.out.2.grown.trans (setCells_grown g Z _ _), fun i hi => ?_, fun j hj => by rw [setCells_frozen]; exact HR.out.2.free j (by omega)⟩
              have hi2 : i < l'.length := by omega
              have hcell := HR.out.2.cells i hi2
              have he : (compactT R)[i] = l'[i] := by
                have : ∀ (A B : List Triple) (e : A = B) (h : i < A.length) (h' : i < B.length), A[i] = B[i] := by rintro A B rfl h h'; rfl
                rw [this _ _ HEnd.out hi (by rw [← HEnd.out]; exact hi), List.getElem_take]
              rw [he]
              obtain ⟨c0, c1, c2, c3, c4, c5, c6, c7, c8⟩ := hcell
              have far : ∀ o, o < k1 * 9 → (wr.setCells g (k1 * 9) Z).cell? ⟨g, o, none⟩ = wr.cell? ⟨g, o, none⟩ := fun o ho => setCells_far g Z (k1 * 9) wr o ho
              exact ⟨(far _ (by omega)).trans c0, (far _ (by omega)).trans c1, (far _ (by omega)).trans c2, (far _ (by omega)).trans c3, (far _ (by omega)).trans c4, (far _ (by omega)).trans c5, (far _ (by omega)).trans c6, (far _ (by omega)).trans c7, (far _ (by omega)).trans c8⟩)
            clear hn2 hc3 hZ HEnd HR HLl
            go_wp2
            go_ret
            exact ⟨by rw [HV.out.1]; rfl, HV.out.2⟩
      · have HC : Hid (∀ w, Calls Tryz.prog 42 #[Ref5.tripleV x, Ref5.tripleV y] w fun e w' => e = .returned (.bool false) ∧ Below w.heap.size w w') := Lib.hid (fun w => by
          have := HCC.out w
          rwa [decide_eq_false hv] at this)
        have HI0 : Hid (∀ i (h : i < R.length), 1 ≤ i → i < k + 1 → cmpT R[i] (R[i - 1]'(by omega)) ≠ 0) := Lib.hid (fun i h h1 h2 => by
          by_cases e : i = k
          · subst e
            rw [← hx, ← hy]
            exact hv
          · exact HR.out.1 i h h1 (by omega))
        clear HCC hv hx hy hkp
        obtain ⟨⟨sk, sx, se⟩, ⟨pk, px, pe⟩, ⟨ok, ox, oe⟩⟩ := x
        obtain ⟨⟨sk', sx', se'⟩, ⟨pk', px', pe'⟩, ⟨ok', ox', oe'⟩⟩ := y
        have x0 := fun p => (hcx.bel p).c0
        have x1 := fun p => (hcx.bel p).c1
        have x2 := fun p => (hcx.bel p).c2
        have x3 := fun p => (hcx.bel p).c3
        have x4 := fun p => (hcx.bel p).c4
        have x5 := fun p => (hcx.bel p).c5
        have x6 := fun p => (hcx.bel p).c6
        have x7 := fun p => (hcx.bel p).c7
        have x8 := fun p => (hcx.bel p).c8
        have y0 := fun p => (hcy.bel p).c0
        have y1 := fun p => (hcy.bel p).c1
        have y2 := fun p => (hcy.bel p).c2
        have y3 := fun p => (hcy.bel p).c3
        have y4 := fun p => (hcy.bel p).c4
        have y5 := fun p => (hcy.bel p).c5
        have y6 := fun p => (hcy.bel p).c6
        have y7 := fun p => (hcy.bel p).c7
        have y8 := fun p => (hcy.bel p).c8
        dsimp only at x0 x1 x2 x3 x4 x5 x6 x7 x8 y0 y1 y2 y3 y4 y5 y6 y7 y8
        unfold Ref5.tripleV at HC
        dsimp only at HC
        go_upto_region 6 with fail
        refine QT.region_all (by kernel_rfl) (by kernel_rfl) ?_
        iterate 10 (go_big_quiet_step (fail))
        go_big_quiet_step (exact QT.Bel.call _ (HC.out _))
        refine wpQuiet_nil ?_
        intro w2 hw'
        obtain ⟨⟨_, hb⟩, rfl⟩ := hw'
        have HS1 := Lib.hid (HBk.out w2 hb)
        clear hb x0 x1 x2 x3 x4 x5 x6 x7 x8 y0 y1 y2 y3 y4 y5 y6 y7 y8 hcx hcy HBk HR
        go_wp2
        go_roundw
        case rel => exact ⟨k + 1, by go_num, by omega, by omega, Lib.hid ⟨HI0.out, HS1.out⟩⟩
        case measure => simp [intOf]; omega
    · have hdk : decide (k < L) = false := decide_eq_false hlt
      have HV : Hid ((compactT R).length = L ∧ SR W g (compactT R) wr) := Lib.hid (by
        have he : compactT R = R := by
          have h1 := compact_same R L (by omega) (by rw [HL.out]; exact Nat.le_refl _) (fun i hi h1 h2 => HR.out.1 i hi h1 (by omega))
          rw [List.take_of_length_le (by rw [HL.out]; exact Nat.le_refl _)] at h1
          exact h1
        rw [he]
        exact ⟨HL.out, HR.out.2⟩)
      clear HR
      go_wp2
      go_ret
      exact ⟨by rw [HV.out.1]; rfl, HV.out.2⟩
end Go.Proofs.YtmcoloapiiakbaaGreatDoor.SortW
/-
  lines.Sort, walked.
-/
set_option linter.unusedVariables false
set_option linter.unusedSimpArgs false
namespace Go.Proofs.YtmcoloapiiakbaaGreatDoor.SortW
open Go.RowKit Go.Lib Go.Proofs.YtmcoloapiiakbaaGreatDoor.B Go.Proofs.YtmcoloapiiakbaaGreatDoor.Rd Go.Proofs.YtmcoloapiiakbaaGreatDoor.Utf Go.Proofs.YtmcoloapiiakbaaGreatDoor.TermPure Go.Proofs.YtmcoloapiiakbaaGreatDoor.LinesPure Go.Proofs.YtmcoloapiiakbaaGreatDoor.Tx Go.Proofs.YtmcoloapiiakbaaGreatDoor.Env Go.Proofs.YtmcoloapiiakbaaGreatDoor.Tri Go.Proofs.YtmcoloapiiakbaaGreatDoor.SortP Go.Proofs.YtmcoloapiiakbaaGreatDoor.Print Go.Proofs.YtmcoloapiiakbaaGreatDoor.Cmp Go.Proofs.YtmcoloapiiakbaaGreatDoor.Long

theorem ins_nil (A : Option Addr) (c : Nat) (w : World) : Calls Tryz.prog 99 #[.slice A 0 c, .int .i64 0, .int .i64 0, cmpV] w fun e w' => e = .returned (.tuple #[]) ∧ w' = w := by
  unfold cmpV
  go_enter Tryz.func99, Tryz.ntmps99
  go_wp2
  go_loopw [8] (fun vi wr => vi = .int .i64 1 ∧ wr = w) (fun vi _ => 0)
  case atStart => exact ⟨by go_num, rfl⟩
  case round =>
    obtain ⟨rfl, rfl⟩ := hrel
    go_wp2
    go_end0
    exact ⟨rfl, rfl⟩
theorem stable_nil (A : Option Addr) (c : Nat) (w : World) : Calls Tryz.prog 70 #[.slice A 0 c, .int .i64 0, cmpV] w fun e w' => e = .returned (.tuple #[]) ∧ w' = w := by
  have HC := Lib.hid (ins_nil A c w)
  unfold cmpV at *
  go_enter Tryz.func70, Tryz.ntmps70
  go_wp2
  go_loopw [7, 8] (fun va vb wr => va = .int .i64 0 ∧ vb = .int .i64 20 ∧ wr = w) (fun va _ _ => 0)
  case atStart => exact ⟨rfl, rfl, rfl⟩
  case round =>
    obtain ⟨rfl, rfl, rfl⟩ := hrel
    go_wp2_with fail
    refine HC.out.mono ?_
    rintro e w2 ⟨rfl, rfl⟩
    go_wp2
    go_loopw [6] (fun va wx => va = .int .i64 20 ∧ wx = w2) (fun va _ => 0)
    case atStart => exact ⟨rfl, rfl⟩
    case round =>
      obtain ⟨rfl, rfl⟩ := hrel
      go_wp2
      go_end0
      exact ⟨rfl, rfl⟩
theorem sortStable_nil (A : Option Addr) (c : Nat) (w : World) :
    Calls Tryz.prog 40 #[.slice A 0 c, cmpV] w fun e w' => e = .returned (.tuple #[]) ∧ w' = w := by
  have HC := Lib.hid (stable_nil A c w)
  unfold cmpV at *
  go_enter Tryz.func40, Tryz.ntmps40
  go_wp2_with fail
  refine HC.out.mono ?_
  rintro e w2 ⟨rfl, rfl⟩
  go_wp2
  go_end0
  exact ⟨rfl, rfl⟩
theorem compact_nil (A : Option Addr) (c : Nat) (w : World) :
    Calls Tryz.prog 41 #[.slice A 0 c, eqV] w fun e w' => e = .returned (.slice A 0 c) ∧ w' = w := by
  unfold eqV
  go_enter Tryz.func41, Tryz.ntmps41
  go_wp2
  go_ret
  exact ⟨rfl, rfl⟩
theorem maxcap {w : World} {base : Nat} {ok : Nat → Prop} {l : List Triple} {A : Option Addr} {n c : Nat} (h : triK.own 25 w base ok (.slice A n c) l) : c ≤ maxLen := by
  obtain ⟨A', c', he, _, ⟨_, h2⟩, _⟩ := Kd.own_sl (ok' := fun _ => True) h (fun _ _ => trivial) (fun _ _ => trivial)
  cases he
  exact h2
set_option maxHeartbeats 6400000 in
set_option maxRecDepth 100000 in
theorem sort_calls (l : List Triple) (A : Option Addr) (c : Nat) (w : World) (HL : triK.sl.M w (fun k => k < w.heap.size) l [.slice A l.length c]) (hs : ∀ t ∈ l, SmallT t) (hv : Valid l) (hb : l.length * 120 ≤ 140737488355328) :
    Calls Tryz.prog 19 #[.slice A l.length c] w fun e w' => ∃ A' c', e = .returned (.slice A' (sortT l).length c') ∧ triK.sl.M w' (fun k => w.heap.size ≤ k ∧ k < w'.heap.size) (sortT l) [.slice A' (sortT l).length c'] ∧ Below w.heap.size w w' := by
  have HC := Lib.hid (clone_calls l A c w (triK.sl.mono (fun k _ _ => trivial) HL) hb)
  have HF := Lib.hid (row_fits HL)
  have HS := Lib.hid hs
  have HV := Lib.hid hv
  clear HL hs hv
  go_enter Tryz.func19, Tryz.ntmps19
  go_wp2_with fail
  refine HC.out.mono ?_
  rintro e w2 ⟨⟨v, rfl, ho⟩, hb2⟩
  clear HC
  have HB2 := Lib.hid hb2
  clear hb2
  rcases Nat.eq_zero_or_pos l.length with h0 | hp
  · obtain rfl : l = [] := List.eq_nil_of_length_eq_zero h0
    obtain ⟨A2, c2, rfl, hc, hA⟩ := Kd.own_slice ho
    have HM : Hid (triK.sl.M w2 (fun k => w.heap.size ≤ k ∧ k < w2.heap.size) (sortT []) [.slice A2 (sortT []).length c2]) := Lib.hid ⟨A2, c2, rfl, Nat.zero_le _, ⟨Nat.zero_le _, maxcap ho⟩, hA, Kd.row_nil _ _ _ _⟩
    clear ho
    have HC2 := Lib.hid (sortStable_nil A2 c2 w2)
    have HC3 := Lib.hid (compact_nil A2 c2 w2)
    unfold cmpV at HC2
    unfold eqV at HC3
    go_wp2_with fail
    refine HC2.out.mono ?_
    rintro e w3 ⟨rfl, rfl⟩
    go_wp2_with fail
    refine HC3.out.mono ?_
    rintro e w4 ⟨rfl, rfl⟩
    go_wp2
    go_ret
    exact ⟨_, _, rfl, HM.out, HB2.out⟩
  · obtain ⟨g, cap, rfl, hg, hlt, hc, hS⟩ := SR.of_own ho hp
    have hcm := maxcap ho
    clear ho
    have HC2 := Lib.hid (sortStable_calls l l.length cap rfl (by omega) HS.out g w2 w2 hS)
    unfold cmpV at HC2
    clear hS
    go_wp2_with fail
    refine HC2.out.mono ?_
    rintro e w3 ⟨rfl, R, hR, hsR, hS3⟩
    have HC3 := Lib.hid (compact_calls R l.length cap hR.length_eq hc (by omega) hcm (fun t ht => HS.out t (hR.mem_iff.1 ht)) g w2 w3 hS3)
    rw [compact_sorted HV.out hR hsR] at HC3
    unfold eqV at HC3
    have HSub : Hid ((sortT l).length ≤ l.length ∧ 0 < (sortT l).length) := Lib.hid (by
      have hlen := compact_len R R.length (Nat.le_refl _)
      rw [List.take_length, compact_sorted HV.out hR hsR, hR.length_eq] at hlen
      refine ⟨hlen, ?_⟩
      obtain ⟨x, hx⟩ := List.exists_mem_of_length_pos hp
      exact List.length_pos_of_mem ((sortT_mem HV.out x).2 hx)
      )
    clear hS3 hR hsR HC2
    go_wp2_with fail
    refine HC3.out.mono ?_
    rintro e w4 ⟨rfl, hS4⟩
    have HFin : Hid (triK.sl.M w4 (fun k => w.heap.size ≤ k ∧ k < w4.heap.size) (sortT l) [.slice (some ⟨g, 0, none⟩) (sortT l).length cap] ∧ Below w.heap.size w w4) := Lib.hid (by
      refine ⟨hS4.own HSub.out.2 (fun t ht => HF.out t ((sortT_mem HV.out t).1 ht)) (by have := HSub.out.1; omega) (by have := HSub.out.1; omega) hcm _ ⟨hg, Nat.lt_of_lt_of_le hlt hS4.grown.size⟩, ?_⟩
      exact Below.grown HB2.out hS4.grown HB2.out.size (fun j hj => by cases hj; exact hg))
    clear hS4 HC3
    go_wp2
    go_ret
    exact ⟨_, _, rfl, HFin.out⟩
end Go.Proofs.YtmcoloapiiakbaaGreatDoor.SortW
/-
  triviumref5.Put, walked.
-/
set_option linter.unusedVariables false
set_option linter.unusedSimpArgs false
namespace Go.Proofs.YtmcoloapiiakbaaGreatDoor.SortW
open Go.RowKit Go.Lib Go.Proofs.YtmcoloapiiakbaaGreatDoor.B Go.Proofs.YtmcoloapiiakbaaGreatDoor.Rd Go.Proofs.YtmcoloapiiakbaaGreatDoor.Utf Go.Proofs.YtmcoloapiiakbaaGreatDoor.TermPure Go.Proofs.YtmcoloapiiakbaaGreatDoor.LinesPure Go.Proofs.YtmcoloapiiakbaaGreatDoor.Tx Go.Proofs.YtmcoloapiiakbaaGreatDoor.Env Go.Proofs.YtmcoloapiiakbaaGreatDoor.Tri Go.Proofs.YtmcoloapiiakbaaGreatDoor.SortP Go.Proofs.YtmcoloapiiakbaaGreatDoor.Print Go.Proofs.YtmcoloapiiakbaaGreatDoor.Cmp Go.Proofs.YtmcoloapiiakbaaGreatDoor.Long

theorem cellsT : (Tryz.prog).cellsOf 25 = triK.sz := by kernel_rfl
theorem nine {w : World} {g : Nat} {t : Triple} (h : C9 w g 0 t) : w.cell? ⟨g, 0, none⟩ = some (.int .i64 t.s.kind) ∧ w.cell? ⟨g, 1, none⟩ = some (.string (mkS t.s.text)) ∧ w.cell? ⟨g, 2, none⟩ = some (.string (mkS t.s.extra)) ∧ w.cell? ⟨g, 3, none⟩ = some (.int .i64 t.p.kind) ∧ w.cell? ⟨g, 4, none⟩ = some (.string (mkS t.p.text)) ∧ w.cell? ⟨g, 5, none⟩ = some (.string (mkS t.p.extra)) ∧ w.cell? ⟨g, 6, none⟩ = some (.int .i64 t.o.kind) ∧ w.cell? ⟨g, 7, none⟩ = some (.string (mkS t.o.text)) ∧ w.cell? ⟨g, 8, none⟩ = some (.string (mkS t.o.extra)) := by
  obtain ⟨c0, c1, c2, c3, c4, c5, c6, c7, c8⟩ := h
  simp only [Nat.zero_add] at *
  exact ⟨c0, c1, c2, c3, c4, c5, c6, c7, c8⟩
theorem one_grown {W w1 : World} {g : Nat} {r : Option Nat} {t : Triple} (ht : FitsW3 t) (h : C9 W g 0 t) (hg : W.grownBy w1 r) (hne : some g ≠ r) : triK.sl.M w1 (fun _ => True) [t] [.slice (some ⟨g, 0, none⟩) 1 1] := by
  refine ⟨some ⟨g, 0, none⟩, 1, rfl, Nat.le_refl _, ⟨by simp, by unfold maxLen; omega⟩, fun h => (by cases h), fun i x hx => ?_⟩
  cases i with
  | zero =>
    simp at hx
    subst hx
    refine ⟨_, triL t, rfl, trivial, ⟨rfl, ht⟩, fun j u hu => ?_⟩
    rw [Nat.zero_mul, Nat.zero_add, add_plain]
    obtain ⟨c0, c1, c2, c3, c4, c5, c6, c7, c8⟩ := h.moved (hg.block g h.lt hne)
    have hj : j < 9 := (List.getElem?_eq_some_iff.1 hu).1
    match j, hj with
    | 0, _ => cases hu; exact c0
    | 1, _ => cases hu; exact c1
    | 2, _ => cases hu; exact c2
    | 3, _ => cases hu; exact c3
    | 4, _ => cases hu; exact c4
    | 5, _ => cases hu; exact c5
    | 6, _ => cases hu; exact c6
    | 7, _ => cases hu; exact c7
    | 8, _ => cases hu; exact c8
  | succ i => simp at hx
theorem own0_1 (w : World) : triK.own 25 (w.alloc (.cells #[] 25)) w.heap.size TT (.slice (some ⟨w.heap.size, 0, none⟩) 0 0) [] :=
  Kd.own_block (cells := []) (xs := []) (Nat.le_refl _) (Kd.heap_new _ _) rfl (by simp) (fun i x h => by simp at h)
theorem own0_2 (w : World) (o : Obj) : triK.own 25 ((w.alloc o).alloc (.cells #[] 25)) w.heap.size TT (.slice (some ⟨w.heap.size + 1, 0, none⟩) 0 0) [] := by
  have h := own0_1 (w.alloc o)
  rw [show (w.alloc o).heap.size = w.heap.size + 1 by simp] at h
  exact Kd.own_lower (by omega) h
theorem C9_new1 (w : World) (o : Obj) (t : Triple) : C9 ((w.alloc o).alloc (.cells (triL t).toArray 25)).drew (w.heap.size + 1) 0 t := by
  have h := C9.new (w.alloc o) t
  rw [show (w.alloc o).heap.size = w.heap.size + 1 by simp] at h
  exact h.moved rfl
theorem C9_new2 (w : World) (t : Triple) (o : Obj) : C9 ((w.alloc (.cells (triL t).toArray 25)).alloc o).drew w.heap.size 0 t :=
  ((C9.new w t).alloc o).moved rfl
theorem putT_same : ∀ (l : List Triple) (t : Triple) (i : Nat) (hi : i < l.length), (∀ j (h : j < l.length), j < i → cmpT l[j] t < 0) → cmpT l[i] t = 0 → putT l t = l
  | [], _, _, h, _, _ => by simp at h
  | x :: l, t, 0, _, _, h0 => by
    simp at h0
    rw [putT, if_neg (by omega), if_pos h0]
  | x :: l, t, i + 1, hi, hlt, h0 => by
    have h1 := hlt 0 (by simp) (by omega)
    simp at h1
    rw [putT, if_pos h1, putT_same l t i (by simpa using hi) (fun j h hj => by have := hlt (j + 1) (by simpa using h) (by omega); simpa using this) (by simpa using h0)]
theorem putT_ins : ∀ (l : List Triple) (t : Triple) (i : Nat), i ≤ l.length → (∀ j (h : j < l.length), j < i → cmpT l[j] t < 0) → (∀ h : i < l.length, 0 < cmpT l[i] t) → putT l t = l.take i ++ [t] ++ l.drop i
  | [], _, i, _, _, _ => by simp [putT]
  | x :: l, t, 0, _, _, h0 => by
    have := h0 (by simp)
    simp at this
    rw [putT, if_neg (by omega), if_neg (by omega)]
    simp
  | x :: l, t, i + 1, hi, hlt, h0 => by
    have h1 := hlt 0 (by simp) (by omega)
    simp at h1
    rw [putT, if_pos h1, putT_ins l t i (by simpa using hi) (fun j h hj => by have := hlt (j + 1) (by simpa using h) (by omega); simpa using this) (fun h => by have := h0 (by simpa using h); simpa using this)]
    simp
set_option maxHeartbeats 12800000 in
set_option maxRecDepth 100000 in
theorem put_calls (l : List Triple) (t : Triple) (A : Option Addr) (c : Nat) (w : World) (HL : triK.sl.M w (fun k => k < w.heap.size) l [.slice A l.length c]) (hs : ∀ x ∈ l, SmallT x) (hst : SmallT t) (hft : FitsW3 t) (hb : l.length ≤ 1000000) :
    Calls Tryz.prog 43 #[.slice A l.length c, Ref5.tripleV t] w fun e w' => ∃ A' c', e = .returned (.slice A' (putT l t).length c') ∧ triK.sl.M w' TT (putT l t) [.slice A' (putT l t).length c'] ∧ Below w.heap.size w w' := by
  have HR := Lib.hid (row_cells HL)
  have HS := Lib.hid hs
  have HF := Lib.hid (row_fits HL)
  have h47 := sl_len HL
  obtain ⟨A', c', he, hlc, ⟨hl47, hcm⟩, hA, hrow⟩ := HL
  obtain ⟨rfl, rfl⟩ : A = A' ∧ c = c' := by simpa using he
  clear he
  have HROW : Hid (triK.row w TT A l) := Lib.hid (Kd.row_mono (fun _ _ _ => trivial) hrow)
  have HC0 := Lib.hid (C9.new w t)
  have HX : Hid (Ref5.tripleV t = .agg (triL t).toArray) := Lib.hid rfl
  clear hrow hs
  unfold Ref5.tripleV
  go_enter Tryz.func43, Tryz.ntmps43
  go_wp2
  go_loopw [5] (fun vi wr => ∃ i : Nat, vi = .int .i64 i ∧ i ≤ l.length ∧ Hid ((∀ j (h : j < l.length), j < i → cmpT l[j] t < 0) ∧ Below w.heap.size w wr ∧ C9 wr w.heap.size 0 t)) (fun vi _ => l.length - (intOf vi).toNat)
  case atStart => exact ⟨0, rfl, by omega, Lib.hid ⟨fun j h hj => by omega, bel_alloc (Below.refl _ _) _, HC0.out⟩⟩
  case round =>
    obtain ⟨i, rfl, hiL, HI⟩ := hrel
    clear HC0
    by_cases hlt : i < l.length
    · have hd : decide (i < l.length) = true := decide_eq_true hlt
      have ik : (i : Int) < (l.length : Int) := by omega
      obtain ⟨b, off, rfl, hbs, hcells⟩ := HR.out i hlt
      have hcx := (hcells i hlt).below HI.out.2.1
      have hcy := HI.out.2.2
      obtain ⟨x, hx⟩ : ∃ x, x = l[i] := ⟨_, rfl⟩
      rw [← hx] at hcx
      have HCC := Lib.hid (fun w => RefCmp.cmp5_calls x t (by rw [hx]; exact HS.out _ (List.getElem_mem hlt)) hst w)
      obtain ⟨v, hv⟩ : ∃ v, v = cmpT x t := ⟨_, rfl⟩
      rw [← hv] at HCC
      have HNext : Hid (v < 0 → ∀ j (h : j < l.length), j < i + 1 → cmpT l[j] t < 0) := Lib.hid (fun h j hj hji => by
        by_cases e : j = i
        · subst e
          rw [← hx, ← hv]
          exact h
        · exact HI.out.1 j hj (by omega))
      have HSame : Hid (v = 0 → putT l t = l) := Lib.hid (fun h => putT_same l t i hlt HI.out.1 (by rw [← hx, ← hv]; exact h))
      have HIns : Hid (0 < v → putT l t = l.take i ++ [t] ++ l.drop i) := Lib.hid (fun h => putT_ins l t i hiL HI.out.1 (fun h2 => by rw [← hx, ← hv]; exact h))
      have HIW := Lib.hid HI.out.2
      clear hcells hx hv
      by_cases hv0 : v < 0
      · have hvd : decide (v < 0) = true := decide_eq_true hv0
        have HNx := Lib.hid (HNext.out hv0)
        clear HNext HSame HIns hv0
        obtain ⟨⟨sk, sx, se⟩, ⟨pk, px, pe⟩, ⟨ok, ox, oe⟩⟩ := x
        obtain ⟨⟨sk', sx', se'⟩, ⟨pk', px', pe'⟩, ⟨ok', ox', oe'⟩⟩ := t
        have x0 := fun p => (hcx.bel p).c0
        have x1 := fun p => (hcx.bel p).c1
        have x2 := fun p => (hcx.bel p).c2
        have x3 := fun p => (hcx.bel p).c3
        have x4 := fun p => (hcx.bel p).c4
        have x5 := fun p => (hcx.bel p).c5
        have x6 := fun p => (hcx.bel p).c6
        have x7 := fun p => (hcx.bel p).c7
        have x8 := fun p => (hcx.bel p).c8
        have y0 := fun p => (hcy.bel p).c0
        have y1 := fun p => (hcy.bel p).c1
        have y2 := fun p => (hcy.bel p).c2
        have y3 := fun p => (hcy.bel p).c3
        have y4 := fun p => (hcy.bel p).c4
        have y5 := fun p => (hcy.bel p).c5
        have y6 := fun p => (hcy.bel p).c6
        have y7 := fun p => (hcy.bel p).c7
        have y8 := fun p => (hcy.bel p).c8
        dsimp only at x0 x1 x2 x3 x4 x5 x6 x7 x8 y0 y1 y2 y3 y4 y5 y6 y7 y8
        unfold Ref5.tripleV at HCC
        dsimp only at HCC
        go_upto_region 2 with fail
        refine QT.region_all (by kernel_rfl) (by kernel_rfl) ?_
        iterate 10 (go_big_quiet_step (fail))
        go_big_quiet_step (exact QT.Bel.call _ (HCC.out _))
        iterate 2 (go_big_quiet_step (fail))
        refine wpQuiet_nil ?_
        intro w2 hw'
        obtain ⟨⟨_, hb⟩, rfl⟩ := hw'
        have HW2 : Hid (Below w.heap.size w w2 ∧ C9 w2 w.heap.size 0 ⟨⟨sk', sx', se'⟩, ⟨pk', px', pe'⟩, ⟨ok', ox', oe'⟩⟩) := Lib.hid ⟨bel_step HIW.out.1 hb, hcy.below hb⟩
        clear hb x0 x1 x2 x3 x4 x5 x6 x7 x8 y0 y1 y2 y3 y4 y5 y6 y7 y8 hcx hcy HI HIW
        go_wp2
        go_roundw
        case rel => exact ⟨i + 1, by go_num, by omega, Lib.hid ⟨HNx.out, HW2.out⟩⟩
        case measure => simp [intOf]; omega
      · have hvd : decide (v < 0) = false := decide_eq_false hv0
        by_cases hve0 : v = 0
        · have hve : (v == 0) = true := by rw [hve0]; rfl
          have HPut := Lib.hid (HSame.out hve0)
          clear HNext HSame HIns hv0
          obtain ⟨⟨sk, sx, se⟩, ⟨pk, px, pe⟩, ⟨ok, ox, oe⟩⟩ := x
          obtain ⟨⟨sk', sx', se'⟩, ⟨pk', px', pe'⟩, ⟨ok', ox', oe'⟩⟩ := t
          have x0 := fun p => (hcx.bel p).c0
          have x1 := fun p => (hcx.bel p).c1
          have x2 := fun p => (hcx.bel p).c2
          have x3 := fun p => (hcx.bel p).c3
          have x4 := fun p => (hcx.bel p).c4
          have x5 := fun p => (hcx.bel p).c5
          have x6 := fun p => (hcx.bel p).c6
          have x7 := fun p => (hcx.bel p).c7
          have x8 := fun p => (hcx.bel p).c8
          have y0 := fun p => (hcy.bel p).c0
          have y1 := fun p => (hcy.bel p).c1
          have y2 := fun p => (hcy.bel p).c2
          have y3 := fun p => (hcy.bel p).c3
          have y4 := fun p => (hcy.bel p).c4
          have y5 := fun p => (hcy.bel p).c5
          have y6 := fun p => (hcy.bel p).c6
          have y7 := fun p => (hcy.bel p).c7
          have y8 := fun p => (hcy.bel p).c8
          dsimp only at x0 x1 x2 x3 x4 x5 x6 x7 x8 y0 y1 y2 y3 y4 y5 y6 y7 y8
          unfold Ref5.tripleV at HCC
          dsimp only at HCC
          go_upto_region 2 with fail
          refine QT.region_all (by kernel_rfl) (by kernel_rfl) ?_
          iterate 10 (go_big_quiet_step (fail))
          go_big_quiet_step (exact QT.Bel.call _ (HCC.out _))
          iterate 2 (go_big_quiet_step (fail))
          refine wpQuiet_nil ?_
          intro w2 hw'
          obtain ⟨⟨_, hb⟩, rfl⟩ := hw'
          have HW2 : Hid (Below w.heap.size w w2 ∧ C9 w2 w.heap.size 0 ⟨⟨sk', sx', se'⟩, ⟨pk', px', pe'⟩, ⟨ok', ox', oe'⟩⟩) := Lib.hid ⟨bel_step HIW.out.1 hb, hcy.below hb⟩
          have hcx := hcx.below hb
          have hcy := HW2.out.2
          clear hb x0 x1 x2 x3 x4 x5 x6 x7 x8 y0 y1 y2 y3 y4 y5 y6 y7 y8 HI HIW
          go_wp2
          have x0 := fun p => (hcx.bel p).c0
          have x1 := fun p => (hcx.bel p).c1
          have x2 := fun p => (hcx.bel p).c2
          have x3 := fun p => (hcx.bel p).c3
          have x4 := fun p => (hcx.bel p).c4
          have x5 := fun p => (hcx.bel p).c5
          have x6 := fun p => (hcx.bel p).c6
          have x7 := fun p => (hcx.bel p).c7
          have x8 := fun p => (hcx.bel p).c8
          have y0 := fun p => (hcy.bel p).c0
          have y1 := fun p => (hcy.bel p).c1
          have y2 := fun p => (hcy.bel p).c2
          have y3 := fun p => (hcy.bel p).c3
          have y4 := fun p => (hcy.bel p).c4
          have y5 := fun p => (hcy.bel p).c5
          have y6 := fun p => (hcy.bel p).c6
          have y7 := fun p => (hcy.bel p).c7
          have y8 := fun p => (hcy.bel p).c8
          dsimp only at x0 x1 x2 x3 x4 x5 x6 x7 x8 y0 y1 y2 y3 y4 y5 y6 y7 y8
          go_upto_region 4 with fail
          refine QT.region_all (by kernel_rfl) (by kernel_rfl) ?_
          iterate 10 (go_big_quiet_step (fail))
          go_big_quiet_step (exact QT.Bel.call _ (HCC.out _))
          iterate 2 (go_big_quiet_step (fail))
          refine wpQuiet_nil ?_
          intro w2 hw'
          obtain ⟨⟨_, hb⟩, rfl⟩ := hw'
          have HB3 := Lib.hid (bel_step HW2.out.1 hb)
          clear hb x0 x1 x2 x3 x4 x5 x6 x7 x8 y0 y1 y2 y3 y4 y5 y6 y7 y8 hcx hcy HW2
          go_wp2
          go_ret
          rw [HPut.out]
          exact ⟨_, _, rfl, ⟨_, _, rfl, hlc, ⟨hl47, hcm⟩, hA, Kd.row_below HROW.out HB3.out⟩, HB3.out⟩
        · have hve : (v == 0) = false := by rw [beq_eq_false_iff_ne]; exact hve0
          have HPut := Lib.hid (HIns.out (by omega))
          clear HNext HSame HIns hv0 hve0
          obtain ⟨⟨sk, sx, se⟩, ⟨pk, px, pe⟩, ⟨ok, ox, oe⟩⟩ := x
          obtain ⟨⟨sk', sx', se'⟩, ⟨pk', px', pe'⟩, ⟨ok', ox', oe'⟩⟩ := t
          have x0 := fun p => (hcx.bel p).c0
          have x1 := fun p => (hcx.bel p).c1
          have x2 := fun p => (hcx.bel p).c2
          have x3 := fun p => (hcx.bel p).c3
          have x4 := fun p => (hcx.bel p).c4
          have x5 := fun p => (hcx.bel p).c5
          have x6 := fun p => (hcx.bel p).c6
          have x7 := fun p => (hcx.bel p).c7
          have x8 := fun p => (hcx.bel p).c8
          have y0 := fun p => (hcy.bel p).c0
          have y1 := fun p => (hcy.bel p).c1
          have y2 := fun p => (hcy.bel p).c2
          have y3 := fun p => (hcy.bel p).c3
          have y4 := fun p => (hcy.bel p).c4
          have y5 := fun p => (hcy.bel p).c5
          have y6 := fun p => (hcy.bel p).c6
          have y7 := fun p => (hcy.bel p).c7
          have y8 := fun p => (hcy.bel p).c8
          dsimp only at x0 x1 x2 x3 x4 x5 x6 x7 x8 y0 y1 y2 y3 y4 y5 y6 y7 y8
          unfold Ref5.tripleV at HCC
          dsimp only at HCC
          go_upto_region 2 with fail
          refine QT.region_all (by kernel_rfl) (by kernel_rfl) ?_
          iterate 10 (go_big_quiet_step (fail))
          go_big_quiet_step (exact QT.Bel.call _ (HCC.out _))
          iterate 2 (go_big_quiet_step (fail))
          refine wpQuiet_nil ?_
          intro w2 hw'
          obtain ⟨⟨_, hb⟩, rfl⟩ := hw'
          have HW2 : Hid (Below w.heap.size w w2 ∧ C9 w2 w.heap.size 0 ⟨⟨sk', sx', se'⟩, ⟨pk', px', pe'⟩, ⟨ok', ox', oe'⟩⟩) := Lib.hid ⟨bel_step HIW.out.1 hb, hcy.below hb⟩
          have hcx := hcx.below hb
          have hcy := HW2.out.2
          clear hb x0 x1 x2 x3 x4 x5 x6 x7 x8 y0 y1 y2 y3 y4 y5 y6 y7 y8 HI HIW
          go_wp2
          have x0 := fun p => (hcx.bel p).c0
          have x1 := fun p => (hcx.bel p).c1
          have x2 := fun p => (hcx.bel p).c2
          have x3 := fun p => (hcx.bel p).c3
          have x4 := fun p => (hcx.bel p).c4
          have x5 := fun p => (hcx.bel p).c5
          have x6 := fun p => (hcx.bel p).c6
          have x7 := fun p => (hcx.bel p).c7
          have x8 := fun p => (hcx.bel p).c8
          have y0 := fun p => (hcy.bel p).c0
          have y1 := fun p => (hcy.bel p).c1
          have y2 := fun p => (hcy.bel p).c2
          have y3 := fun p => (hcy.bel p).c3
          have y4 := fun p => (hcy.bel p).c4
          have y5 := fun p => (hcy.bel p).c5
          have y6 := fun p => (hcy.bel p).c6
          have y7 := fun p => (hcy.bel p).c7
          have y8 := fun p => (hcy.bel p).c8
          dsimp only at x0 x1 x2 x3 x4 x5 x6 x7 x8 y0 y1 y2 y3 y4 y5 y6 y7 y8
          go_upto_region 4 with fail
          refine QT.region_all (by kernel_rfl) (by kernel_rfl) ?_
          iterate 10 (go_big_quiet_step (fail))
          go_big_quiet_step (exact QT.Bel.call _ (HCC.out _))
          iterate 2 (go_big_quiet_step (fail))
          refine wpQuiet_nil ?_
          intro w2 hw'
          obtain ⟨⟨_, hb⟩, rfl⟩ := hw'
          have HB3 := Lib.hid (bel_step HW2.out.1 hb)
          have hcz := hcy.below hb
          clear hb x0 x1 x2 x3 x4 x5 x6 x7 x8 y0 y1 y2 y3 y4 y5 y6 y7 y8 hcx hcy HW2
          go_wp2
          obtain ⟨A1, -, -, htake, hrow1⟩ := Kd.cut_run (P := Tryz.prog) triK 31 25 Tryz.underlying31 cellsT zeroV 120 info_tri (some ⟨b, off, none⟩) l.length c 0 i (Nat.zero_le _) hiL hlc ⟨hl47, hcm⟩ hA
          obtain ⟨A2, -, hdrop, -, hrow2⟩ := Kd.cut_run (P := Tryz.prog) triK 31 25 Tryz.underlying31 cellsT zeroV 120 info_tri (some ⟨b, off, none⟩) l.length c i l.length hiL (Nat.le_refl _) hlc ⟨hl47, hcm⟩ hA
          have HQ1 := Lib.hid (hrow1 w TT l rfl HROW.out)
          have HQ2 := Lib.hid (hrow2 w TT l rfl HROW.out)
          rw [List.drop_zero] at HQ1
          rw [List.take_length] at HQ2
          obtain ⟨pre, hpre⟩ : ∃ pre, pre = l.take i := ⟨_, rfl⟩
          obtain ⟨suf, hsuf⟩ : ∃ suf, suf = l.drop i := ⟨_, rfl⟩
          have hpl : pre.length = i := by rw [hpre, List.length_take]; omega
          have hsl : suf.length = l.length - i := by rw [hsuf, List.length_drop]
          have hs1 : ∀ (kh : IntKind) (w : World), (Instr.slice 31 (.slice (some ⟨b, off, none⟩) l.length c) none (some (.int kh (i : Int))) none).run Tryz.prog w = .ok (.slice A1 pre.length c) w := fun kh w => by rw [hpl]; exact htake kh w rfl
          obtain ⟨c2, hc2⟩ : ∃ c2, c2 = c - i := ⟨_, rfl⟩
          have hs2 : ∀ (kl : IntKind) (w : World), (Instr.slice 31 (.slice (some ⟨b, off, none⟩) l.length c) (some (.int kl (i : Int))) none none).run Tryz.prog w = .ok (.slice A2 suf.length c2) w := fun kl w => by rw [hsl, hc2]; exact hdrop kl w rfl
          rw [Nat.sub_zero, Nat.sub_zero, ← hpre, ← hpl] at HQ1
          rw [← hsuf, ← hsl, ← hc2] at HQ2
          rw [← hpre, ← hsuf] at HPut
          have hbp : pre.length ≤ 1000000 := by omega
          have hbs2 : suf.length ≤ 1000000 := by omega
          clear htake hdrop hrow1 hrow2 hpre hsuf hc2
          clear hpl hsl
          have HZ := Lib.hid hcz
          have hB := HB3.out
          have hY := Below.refl w2.heap.size w2
          obtain ⟨n0, n1, n2, n3, n4, n5, n6, n7, n8⟩ := hcz
          dsimp only at n0 n1 n2 n3 n4 n5 n6 n7 n8
          go_cut [4] (fun v4 wx => Hid (triK.own 25 wx w2.heap.size TT v4 (pre ++ [⟨⟨sk', sx', se'⟩, ⟨pk', px', pe'⟩, ⟨ok', ox', oe'⟩⟩] ++ suf)) ∧ Hid (Below w.heap.size w wx))
          case first =>
            go_region_held3 (fun w' => w'.cell? ⟨w.heap.size, 0, none⟩ = some (Value.int .i64 sk') ∧ w'.cell? ⟨w.heap.size, 1, none⟩ = some (Value.string (mkS sx')) ∧ w'.cell? ⟨w.heap.size, 2, none⟩ = some (Value.string (mkS se')) ∧ w'.cell? ⟨w.heap.size, 3, none⟩ = some (Value.int .i64 pk') ∧ w'.cell? ⟨w.heap.size, 4, none⟩ = some (Value.string (mkS px')) ∧ w'.cell? ⟨w.heap.size, 5, none⟩ = some (Value.string (mkS pe')) ∧ w'.cell? ⟨w.heap.size, 6, none⟩ = some (Value.int .i64 ok') ∧ w'.cell? ⟨w.heap.size, 7, none⟩ = some (Value.string (mkS ox')) ∧ w'.cell? ⟨w.heap.size, 8, none⟩ = some (Value.string (mkS oe')))
              (exact nine (HZ.out.below (by (repeat (first | assumption | exact Below.refl _ _ | refine bel_alloc ?_ _ | refine bel_drew ?_)))))
              (first
                | (refine Kd.own_app_step triK (w0 := w2) w2.heap.size (by rfl) (.tmp 35) (.tmp 38) 31 25 zeroV 120 (by rfl) Tryz.underlying31 info_tri rfl (by decide) (.slice (some ⟨w2.heap.size, 0, none⟩) 0 0) [] pre A1 c TT (by rfl) (by rfl) ?ho (.inr ⟨?hr, any_tri⟩) ?hb ?hs ?hl ?_; go_loud (case hl => simp; omega); go_loud (case ho => first | exact own0_1 _ | exact Kd.own_drew (own0_1 _) | exact Kd.own_drew (Kd.own_alloc (own0_1 _) _) | exact Kd.own_drew (own0_2 _ _)); go_loud (case hr => exact Kd.M_below HQ1.out (by (repeat (first | assumption | exact Below.refl _ _ | refine bel_alloc ?_ _ | refine bel_drew ?_)))); go_loud (case hb => repeat (first | assumption | exact Below.refl _ _ | refine bel_alloc ?_ _ | refine bel_drew ?_)); go_loud (case hs => simp; try omega); intro v1 w1 ho1 hb1 hg1 hv1; go_loud (rw [List.nil_append] at ho1); have HO1 := Lib.hid ho1; clear ho1 hv1)
                | (refine Kd.own_app_step triK (w0 := w2) w2.heap.size (by rfl) (.tmp 35) (.tmp 38) 31 25 zeroV 120 (by rfl) Tryz.underlying31 info_tri rfl (by decide) (.slice (some ⟨w2.heap.size + 1, 0, none⟩) 0 0) [] pre A1 c TT (by rfl) (by rfl) ?ho (.inr ⟨?hr, any_tri⟩) ?hb ?hs ?hl ?_; go_loud (case hl => simp; omega); go_loud (case ho => first | exact own0_1 _ | exact Kd.own_drew (own0_1 _) | exact Kd.own_drew (Kd.own_alloc (own0_1 _) _) | exact Kd.own_drew (own0_2 _ _)); go_loud (case hr => exact Kd.M_below HQ1.out (by (repeat (first | assumption | exact Below.refl _ _ | refine bel_alloc ?_ _ | refine bel_drew ?_)))); go_loud (case hb => repeat (first | assumption | exact Below.refl _ _ | refine bel_alloc ?_ _ | refine bel_drew ?_)); go_loud (case hs => simp; try omega); intro v1 w1 ho1 hb1 hg1 hv1; go_loud (rw [List.nil_append] at ho1); have HO1 := Lib.hid ho1; clear ho1 hv1)
                | (refine Kd.own_app_step triK (w0 := w2) w2.heap.size (by rfl) (.tmp 39) (.tmp 41) 31 25 zeroV 120 (by rfl) Tryz.underlying31 info_tri rfl (by decide) v1 pre [⟨⟨sk', sx', se'⟩, ⟨pk', px', pe'⟩, ⟨ok', ox', oe'⟩⟩] _ 1 TT (by rfl) (by rfl) ?ho (.inr ⟨?hr, any_tri⟩) ?hb ?hs ?hl ?_; go_loud (case hl => simp; omega); go_loud (case ho => repeat (first | exact HO1.out | refine Kd.own_drew ?_ | refine Kd.own_alloc ?_ _)); go_loud (case hr => first | exact triK.sl.mono (fun _ _ _ => trivial) (Known.one_row _ ⟨⟨sk', sx', se'⟩, ⟨pk', px', pe'⟩, ⟨ok', ox', oe'⟩⟩ hft) | (refine one_grown hft ?_ hg1 ?_; (first | exact C9_new1 _ _ ⟨⟨sk', sx', se'⟩, ⟨pk', px', pe'⟩, ⟨ok', ox', oe'⟩⟩ | exact C9_new2 _ ⟨⟨sk', sx', se'⟩, ⟨pk', px', pe'⟩, ⟨ok', ox', oe'⟩⟩ _); (simp [Value.ownBlock]))); go_loud (case hb => repeat (first | assumption | exact Below.refl _ _ | refine bel_alloc ?_ _ | refine bel_drew ?_)); go_loud (case hs => have := hb1.size; first | omega | (simp; omega)); intro v2 w4 ho2 hb2 hg2 hv2; have HO2 := Lib.hid ho2; clear ho2 hg2 hv2)
                | (refine Kd.own_app_step triK (w0 := w2) w2.heap.size (by rfl) (.tmp 42) (.tmp 45) 31 25 zeroV 120 (by rfl) Tryz.underlying31 info_tri rfl (by decide) v2 (pre ++ [⟨⟨sk', sx', se'⟩, ⟨pk', px', pe'⟩, ⟨ok', ox', oe'⟩⟩]) suf A2 c2 TT (by rfl) (by rfl) ?ho (.inr ⟨?hr, any_tri⟩) ?hb ?hs ?hl ?_; go_loud (case hl => simp; omega); go_loud (case ho => repeat (first | exact HO2.out | refine Kd.own_drew ?_ | refine Kd.own_alloc ?_ _)); go_loud (case hr => exact Kd.M_below HQ2.out (bel_step hB (by (repeat (first | assumption | exact Below.refl _ _ | refine bel_alloc ?_ _ | refine bel_drew ?_))))); go_loud (case hb => repeat (first | assumption | exact Below.refl _ _ | refine bel_alloc ?_ _ | refine bel_drew ?_)); go_loud (case hs => have := hb2.size; first | omega | (simp; omega)); intro v3 w5 ho3 hb3 hg3 hv3; have HO3 := Lib.hid ho3; clear ho3 hg3 hv3)
                | fail)
            all_goals (go_wp2_with fail; go_meet; exact ⟨HO3, Lib.hid (bel_step hB hb3)⟩)
          case rest =>
            obtain ⟨HO, HB6⟩ := hcut
            obtain ⟨A9, c9, rfl, _, _⟩ := Kd.own_slice HO.out
            have HM9 := Lib.hid (Kd.own_sl (ok' := TT) HO.out (fun _ _ => trivial) (fun _ _ => trivial))
            rw [← HPut.out] at HM9
            rw [← HPut.out]
            clear HO
            go_wp2
            go_ret
            exact ⟨_, _, rfl, HM9.out, HB6.out⟩
    · have hd : decide (i < l.length) = false := decide_eq_false hlt
      have HPut : Hid (putT l t = l.take i ++ [t] ++ l.drop i) := Lib.hid (putT_ins l t i hiL HI.out.1 (fun h => absurd h hlt))
      have HIW := Lib.hid HI.out.2
      clear HI hlt
      obtain ⟨⟨sk', sx', se'⟩, ⟨pk', px', pe'⟩, ⟨ok', ox', oe'⟩⟩ := t
      go_upto_region 2 with fail
      go_quiet (fail)
      go_wp2
      go_upto_region 4 with fail
      go_quiet (fail)
      go_upto_region 6 with fail
      generalize hwy : World.drewN _ _ = w2 at *
      have HB3 : Hid (Below w.heap.size w w2) := Lib.hid (by subst hwy; exact bel_drewN (bel_drewN HIW.out.1 _) _)
      have hcz : C9 w2 w.heap.size 0 ⟨⟨sk', sx', se'⟩, ⟨pk', px', pe'⟩, ⟨ok', ox', oe'⟩⟩ := by subst hwy; exact HIW.out.2.moved rfl
      clear hwy HIW
      obtain ⟨A1, -, -, htake, hrow1⟩ := Kd.cut_run (P := Tryz.prog) triK 31 25 Tryz.underlying31 cellsT zeroV 120 info_tri (A) l.length c 0 i (Nat.zero_le _) hiL hlc ⟨hl47, hcm⟩ hA
      obtain ⟨A2, -, hdrop, -, hrow2⟩ := Kd.cut_run (P := Tryz.prog) triK 31 25 Tryz.underlying31 cellsT zeroV 120 info_tri (A) l.length c i l.length hiL (Nat.le_refl _) hlc ⟨hl47, hcm⟩ hA
      have HQ1 := Lib.hid (hrow1 w TT l rfl HROW.out)
      have HQ2 := Lib.hid (hrow2 w TT l rfl HROW.out)
      rw [List.drop_zero] at HQ1
      rw [List.take_length] at HQ2
      obtain ⟨pre, hpre⟩ : ∃ pre, pre = l.take i := ⟨_, rfl⟩
      obtain ⟨suf, hsuf⟩ : ∃ suf, suf = l.drop i := ⟨_, rfl⟩
      have hpl : pre.length = i := by rw [hpre, List.length_take]; omega
      have hsl : suf.length = l.length - i := by rw [hsuf, List.length_drop]
      have hs1 : ∀ (kh : IntKind) (w : World), (Instr.slice 31 (.slice (A) l.length c) none (some (.int kh (i : Int))) none).run Tryz.prog w = .ok (.slice A1 pre.length c) w := fun kh w => by rw [hpl]; exact htake kh w rfl
      obtain ⟨c2, hc2⟩ : ∃ c2, c2 = c - i := ⟨_, rfl⟩
      have hs2 : ∀ (kl : IntKind) (w : World), (Instr.slice 31 (.slice (A) l.length c) (some (.int kl (i : Int))) none none).run Tryz.prog w = .ok (.slice A2 suf.length c2) w := fun kl w => by rw [hsl, hc2]; exact hdrop kl w rfl
      rw [Nat.sub_zero, Nat.sub_zero, ← hpre, ← hpl] at HQ1
      rw [← hsuf, ← hsl, ← hc2] at HQ2
      rw [← hpre, ← hsuf] at HPut
      have hbp : pre.length ≤ 1000000 := by omega
      have hbs2 : suf.length ≤ 1000000 := by omega
      clear htake hdrop hrow1 hrow2 hpre hsuf hc2
      clear hpl hsl
      have HZ := Lib.hid hcz
      have hB := HB3.out
      have hY := Below.refl w2.heap.size w2
      obtain ⟨n0, n1, n2, n3, n4, n5, n6, n7, n8⟩ := hcz
      dsimp only at n0 n1 n2 n3 n4 n5 n6 n7 n8
      go_cut [4] (fun v4 wx => Hid (triK.own 25 wx w2.heap.size TT v4 (pre ++ [⟨⟨sk', sx', se'⟩, ⟨pk', px', pe'⟩, ⟨ok', ox', oe'⟩⟩] ++ suf)) ∧ Hid (Below w.heap.size w wx))
      case first =>
        go_region_held3 (fun w' => w'.cell? ⟨w.heap.size, 0, none⟩ = some (Value.int .i64 sk') ∧ w'.cell? ⟨w.heap.size, 1, none⟩ = some (Value.string (mkS sx')) ∧ w'.cell? ⟨w.heap.size, 2, none⟩ = some (Value.string (mkS se')) ∧ w'.cell? ⟨w.heap.size, 3, none⟩ = some (Value.int .i64 pk') ∧ w'.cell? ⟨w.heap.size, 4, none⟩ = some (Value.string (mkS px')) ∧ w'.cell? ⟨w.heap.size, 5, none⟩ = some (Value.string (mkS pe')) ∧ w'.cell? ⟨w.heap.size, 6, none⟩ = some (Value.int .i64 ok') ∧ w'.cell? ⟨w.heap.size, 7, none⟩ = some (Value.string (mkS ox')) ∧ w'.cell? ⟨w.heap.size, 8, none⟩ = some (Value.string (mkS oe')))
          (exact nine (HZ.out.below (by (repeat (first | assumption | exact Below.refl _ _ | refine bel_alloc ?_ _ | refine bel_drew ?_)))))
          (first
            | (refine Kd.own_app_step triK (w0 := w2) w2.heap.size (by rfl) (.tmp 35) (.tmp 38) 31 25 zeroV 120 (by rfl) Tryz.underlying31 info_tri rfl (by decide) (.slice (some ⟨w2.heap.size, 0, none⟩) 0 0) [] pre A1 c TT (by rfl) (by rfl) ?ho (.inr ⟨?hr, any_tri⟩) ?hb ?hs ?hl ?_; go_loud (case hl => simp; omega); go_loud (case ho => first | exact own0_1 _ | exact Kd.own_drew (own0_1 _) | exact Kd.own_drew (Kd.own_alloc (own0_1 _) _) | exact Kd.own_drew (own0_2 _ _)); go_loud (case hr => exact Kd.M_below HQ1.out (by (repeat (first | assumption | exact Below.refl _ _ | refine bel_alloc ?_ _ | refine bel_drew ?_)))); go_loud (case hb => repeat (first | assumption | exact Below.refl _ _ | refine bel_alloc ?_ _ | refine bel_drew ?_)); go_loud (case hs => simp; try omega); intro v1 w1 ho1 hb1 hg1 hv1; go_loud (rw [List.nil_append] at ho1); have HO1 := Lib.hid ho1; clear ho1 hv1)
            | (refine Kd.own_app_step triK (w0 := w2) w2.heap.size (by rfl) (.tmp 35) (.tmp 38) 31 25 zeroV 120 (by rfl) Tryz.underlying31 info_tri rfl (by decide) (.slice (some ⟨w2.heap.size + 1, 0, none⟩) 0 0) [] pre A1 c TT (by rfl) (by rfl) ?ho (.inr ⟨?hr, any_tri⟩) ?hb ?hs ?hl ?_; go_loud (case hl => simp; omega); go_loud (case ho => first | exact own0_1 _ | exact Kd.own_drew (own0_1 _) | exact Kd.own_drew (Kd.own_alloc (own0_1 _) _) | exact Kd.own_drew (own0_2 _ _)); go_loud (case hr => exact Kd.M_below HQ1.out (by (repeat (first | assumption | exact Below.refl _ _ | refine bel_alloc ?_ _ | refine bel_drew ?_)))); go_loud (case hb => repeat (first | assumption | exact Below.refl _ _ | refine bel_alloc ?_ _ | refine bel_drew ?_)); go_loud (case hs => simp; try omega); intro v1 w1 ho1 hb1 hg1 hv1; go_loud (rw [List.nil_append] at ho1); have HO1 := Lib.hid ho1; clear ho1 hv1)
            | (refine Kd.own_app_step triK (w0 := w2) w2.heap.size (by rfl) (.tmp 39) (.tmp 41) 31 25 zeroV 120 (by rfl) Tryz.underlying31 info_tri rfl (by decide) v1 pre [⟨⟨sk', sx', se'⟩, ⟨pk', px', pe'⟩, ⟨ok', ox', oe'⟩⟩] _ 1 TT (by rfl) (by rfl) ?ho (.inr ⟨?hr, any_tri⟩) ?hb ?hs ?hl ?_; go_loud (case hl => simp; omega); go_loud (case ho => repeat (first | exact HO1.out | refine Kd.own_drew ?_ | refine Kd.own_alloc ?_ _)); go_loud (case hr => first | exact triK.sl.mono (fun _ _ _ => trivial) (Known.one_row _ ⟨⟨sk', sx', se'⟩, ⟨pk', px', pe'⟩, ⟨ok', ox', oe'⟩⟩ hft) | (refine one_grown hft ?_ hg1 ?_; (first | exact C9_new1 _ _ ⟨⟨sk', sx', se'⟩, ⟨pk', px', pe'⟩, ⟨ok', ox', oe'⟩⟩ | exact C9_new2 _ ⟨⟨sk', sx', se'⟩, ⟨pk', px', pe'⟩, ⟨ok', ox', oe'⟩⟩ _); (simp [Value.ownBlock]))); go_loud (case hb => repeat (first | assumption | exact Below.refl _ _ | refine bel_alloc ?_ _ | refine bel_drew ?_)); go_loud (case hs => have := hb1.size; first | omega | (simp; omega)); intro v2 w4 ho2 hb2 hg2 hv2; have HO2 := Lib.hid ho2; clear ho2 hg2 hv2)
            | (refine Kd.own_app_step triK (w0 := w2) w2.heap.size (by rfl) (.tmp 42) (.tmp 45) 31 25 zeroV 120 (by rfl) Tryz.underlying31 info_tri rfl (by decide) v2 (pre ++ [⟨⟨sk', sx', se'⟩, ⟨pk', px', pe'⟩, ⟨ok', ox', oe'⟩⟩]) suf A2 c2 TT (by rfl) (by rfl) ?ho (.inr ⟨?hr, any_tri⟩) ?hb ?hs ?hl ?_; go_loud (case hl => simp; omega); go_loud (case ho => repeat (first | exact HO2.out | refine Kd.own_drew ?_ | refine Kd.own_alloc ?_ _)); go_loud (case hr => exact Kd.M_below HQ2.out (bel_step hB (by (repeat (first | assumption | exact Below.refl _ _ | refine bel_alloc ?_ _ | refine bel_drew ?_))))); go_loud (case hb => repeat (first | assumption | exact Below.refl _ _ | refine bel_alloc ?_ _ | refine bel_drew ?_)); go_loud (case hs => have := hb2.size; first | omega | (simp; omega)); intro v3 w5 ho3 hb3 hg3 hv3; have HO3 := Lib.hid ho3; clear ho3 hg3 hv3)
            | fail)
        all_goals (go_wp2_with fail; go_meet; exact ⟨HO3, Lib.hid (bel_step hB hb3)⟩)
      case rest =>
        obtain ⟨HO, HB6⟩ := hcut
        obtain ⟨A9, c9, rfl, _, _⟩ := Kd.own_slice HO.out
        have HM9 := Lib.hid (Kd.own_sl (ok' := TT) HO.out (fun _ _ => trivial) (fun _ _ => trivial))
        rw [← HPut.out] at HM9
        rw [← HPut.out]
        clear HO
        go_wp2
        go_ret
        exact ⟨_, _, rfl, HM9.out, HB6.out⟩
end Go.Proofs.YtmcoloapiiakbaaGreatDoor.SortW
/-
  triviumref5.Sort, walked.
-/
set_option linter.unusedVariables false
set_option linter.unusedSimpArgs false
namespace Go.Proofs.YtmcoloapiiakbaaGreatDoor.SortW
open Go.RowKit Go.Lib Go.Proofs.YtmcoloapiiakbaaGreatDoor.B Go.Proofs.YtmcoloapiiakbaaGreatDoor.Rd Go.Proofs.YtmcoloapiiakbaaGreatDoor.Utf Go.Proofs.YtmcoloapiiakbaaGreatDoor.TermPure Go.Proofs.YtmcoloapiiakbaaGreatDoor.LinesPure Go.Proofs.YtmcoloapiiakbaaGreatDoor.Tx Go.Proofs.YtmcoloapiiakbaaGreatDoor.Env Go.Proofs.YtmcoloapiiakbaaGreatDoor.Tri Go.Proofs.YtmcoloapiiakbaaGreatDoor.SortP Go.Proofs.YtmcoloapiiakbaaGreatDoor.Print Go.Proofs.YtmcoloapiiakbaaGreatDoor.Cmp Go.Proofs.YtmcoloapiiakbaaGreatDoor.Long

theorem putT_sub : ∀ (l : List Triple) (t x : Triple), x ∈ putT l t → x = t ∨ x ∈ l
  | [], t, x, h => by simpa [putT] using h
  | y :: l, t, x, h => by
    rw [putT] at h
    split at h
    · rcases List.mem_cons.1 h with h | h
      · exact .inr (by simp [h])
      · rcases putT_sub l t x h with h | h
        · exact .inl h
        · exact .inr (by simp [h])
    · split at h
      · exact .inr h
      · rcases List.mem_cons.1 h with h | h
        · exact .inl h
        · exact .inr h
theorem putT_len : ∀ (l : List Triple) (t : Triple), (putT l t).length ≤ l.length + 1
  | [], t => by simp [putT]
  | y :: l, t => by
    have := putT_len l t
    rw [putT]
    split
    · simp; omega
    · split <;> simp
def accT (l : List Triple) (k : Nat) : List Triple := (l.take k).foldl putT []
theorem accT_step (l : List Triple) (k : Nat) (h : k < l.length) : accT l (k + 1) = putT (accT l k) l[k] := by
  unfold accT
  rw [List.take_succ_eq_append_getElem h, List.foldl_append]
  rfl
theorem accT_sub (l : List Triple) : ∀ k, k ≤ l.length → ∀ x ∈ accT l k, x ∈ l
  | 0, _, x, h => by simp [accT] at h
  | k + 1, hk, x, h => by
    rw [accT_step l k (by omega)] at h
    rcases putT_sub _ _ _ h with h | h
    · rw [h]; exact List.getElem_mem _
    · exact accT_sub l k (by omega) x h
theorem accT_len (l : List Triple) : ∀ k, k ≤ l.length → (accT l k).length ≤ k
  | 0, _ => by simp [accT]
  | k + 1, hk => by
    rw [accT_step l k (by omega)]
    have := putT_len (accT l k) (l[k]'(by omega))
    have := accT_len l k (by omega)
    omega
theorem accT_all (l : List Triple) : accT l l.length = sortT l := by
  unfold accT sortT
  rw [List.take_length]
set_option maxHeartbeats 6400000 in
set_option maxRecDepth 100000 in
theorem refsort_calls (l : List Triple) (A : Option Addr) (c : Nat) (w : World) (HL : triK.sl.M w (fun k => k < w.heap.size) l [.slice A l.length c]) (hs : ∀ x ∈ l, SmallT x) (hb : l.length ≤ 1000000) :
    Calls Tryz.prog 21 #[.slice A l.length c] w fun e w' => ∃ A' c', e = .returned (.slice A' (sortT l).length c') ∧ triK.sl.M w' (fun k => k < w'.heap.size) (sortT l) [.slice A' (sortT l).length c'] ∧ Below w.heap.size w w' := by
  have HR := Lib.hid (row_cells HL)
  have HF := Lib.hid (row_fits HL)
  have HS := Lib.hid hs
  have h47 := sl_len HL
  clear HL hs
  go_enter Tryz.func21, Tryz.ntmps21
  go_wp2
  go_loopw [3, 4] (fun v3 vi wr => ∃ (k : Nat) (acc : List Triple) (A3 : Option Addr) (c3 : Nat), vi = .int .i64 k ∧ v3 = .slice A3 acc.length c3 ∧ k ≤ l.length ∧ Hid (acc = accT l k ∧ triK.sl.M wr TT acc [.slice A3 acc.length c3] ∧ Below w.heap.size w wr)) (fun _ vi _ => l.length - (intOf vi).toNat)
  case atStart => exact ⟨0, [], none, 0, rfl, rfl, by omega, Lib.hid ⟨rfl, ⟨none, 0, rfl, Nat.le_refl _, ⟨Nat.zero_le _, Nat.zero_le _⟩, fun _ => rfl, Kd.row_nil _ _ _ _⟩, Below.refl _ _⟩⟩
  case round =>
    obtain ⟨k, acc, A3, c3, rfl, rfl, hkL, HI⟩ := hrel
    by_cases hlt : k < l.length
    · have hd : decide (k < l.length) = true := decide_eq_true hlt
      have ik : (k : Int) < (l.length : Int) := by omega
      obtain ⟨b, off, rfl, hbs, hcells⟩ := HR.out k hlt
      have hcx := (hcells k hlt).below HI.out.2.2
      obtain ⟨x, hx⟩ : ∃ x, x = l[k] := ⟨_, rfl⟩
      rw [← hx] at hcx
      have HC := Lib.hid (put_calls acc x A3 c3 wr (triK.sl.mono (fun k _ hk => hk) HI.out.2.1) (fun y hy => HS.out y (accT_sub l k hkL y (by rw [← HI.out.1]; exact hy))) (by rw [hx]; exact HS.out _ (List.getElem_mem hlt)) (by rw [hx]; exact HF.out _ (List.getElem_mem hlt)) (by rw [HI.out.1]; exact Nat.le_trans (accT_len l k hkL) (by omega)))
      have HAcc : Hid (putT acc x = accT l (k + 1)) := Lib.hid (by rw [accT_step l k hlt, HI.out.1, hx])
      have HB := Lib.hid HI.out.2.2
      clear hcells hx HI
      obtain ⟨⟨sk, sx, se⟩, ⟨pk, px, pe⟩, ⟨ok, ox, oe⟩⟩ := x
      obtain ⟨x0, x1, x2, x3, x4, x5, x6, x7, x8⟩ := hcx
      dsimp only at x0 x1 x2 x3 x4 x5 x6 x7 x8
      unfold Ref5.tripleV at HC
      dsimp only at HC
      go_wp2_with fail
      refine HC.out.mono ?_
      rintro e w2 ⟨A4, c4, rfl, hM, hb2⟩
      have HN := Lib.hid (show _ ∧ _ ∧ _ from ⟨HAcc.out, hM, bel_step HB.out hb2⟩)
      clear HC hM hb2 HAcc HB
      go_wp2
      go_roundw
      case rel => exact ⟨k + 1, _, _, _, by go_num, rfl, by omega, HN⟩
      case measure => simp [intOf]; omega
    · have hd : decide (k < l.length) = false := decide_eq_false hlt
      obtain rfl : k = l.length := by omega
      have HN : Hid (acc = sortT l) := Lib.hid (by rw [HI.out.1, accT_all])
      have HM : Hid (triK.sl.M wr (fun k => k < wr.heap.size) acc [.slice A3 acc.length c3] ∧ Below w.heap.size w wr) := Lib.hid ⟨triK.sl.mono (fun k _ hk => hk) HI.out.2.1, HI.out.2.2⟩
      clear HI
      go_wp2
      go_ret
      rw [← HN.out]
      exact ⟨_, _, rfl, HM.out.1, HM.out.2⟩
end Go.Proofs.YtmcoloapiiakbaaGreatDoor.SortW
/-
  triviumref5.Same, walked.
-/
set_option linter.unusedVariables false
set_option linter.unusedSimpArgs false
namespace Go.Proofs.YtmcoloapiiakbaaGreatDoor.SortW
open Go.RowKit Go.Lib Go.Proofs.YtmcoloapiiakbaaGreatDoor.B Go.Proofs.YtmcoloapiiakbaaGreatDoor.Rd Go.Proofs.YtmcoloapiiakbaaGreatDoor.Utf Go.Proofs.YtmcoloapiiakbaaGreatDoor.TermPure Go.Proofs.YtmcoloapiiakbaaGreatDoor.LinesPure Go.Proofs.YtmcoloapiiakbaaGreatDoor.Tx Go.Proofs.YtmcoloapiiakbaaGreatDoor.Env Go.Proofs.YtmcoloapiiakbaaGreatDoor.Tri Go.Proofs.YtmcoloapiiakbaaGreatDoor.SortP Go.Proofs.YtmcoloapiiakbaaGreatDoor.Print Go.Proofs.YtmcoloapiiakbaaGreatDoor.Cmp Go.Proofs.YtmcoloapiiakbaaGreatDoor.Long

theorem run_ne_tri (x y : Triple) (w : World) : (binOp .neq 25 (Ref5.tripleV x) (Ref5.tripleV y)).run Tryz.prog w = .ok (.bool (!decide (x = y))) w := by
  have h := TriEq.run_eq_tri x y w
  unfold Ref5.tripleV at *
  rw [run_eql_struct] at h
  rw [run_neq_struct]
  generalize (Op.equalIn 10000 25 _ _).run Tryz.prog w = r at *
  cases r with
  | ok b w' =>
    simp [Result.andThen] at h ⊢
    obtain ⟨h1, h2⟩ := h
    simp [h1, h2]
  | _ => simp [Result.andThen] at h
set_option maxHeartbeats 6400000 in
set_option maxRecDepth 100000 in
theorem same_calls (l m : List Triple) (A B : Option Addr) (c d : Nat) (w : World) (HL : triK.sl.M w (fun k => k < w.heap.size) l [.slice A l.length c]) (HM : triK.sl.M w (fun k => k < w.heap.size) m [.slice B m.length d]) :
    Calls Tryz.prog 20 #[.slice A l.length c, .slice B m.length d] w fun e w' => e = .returned (.bool (decide (l = m))) ∧ Below w.heap.size w w' := by
  have HR := Lib.hid (row_cells HL)
  have HQ := Lib.hid (row_cells HM)
  have h47 := sl_len HL
  have h48 := sl_len HM
  clear HL HM
  by_cases hlen : l.length = m.length
  · have hne : (l.length != m.length) = false := by simp [hlen]
    have hne2 : ((l.length : Int) != (m.length : Int)) = false := by simp [hlen]
    have HLen := Lib.hid hlen
    clear hlen
    go_enter Tryz.func20, Tryz.ntmps20
    go_wp2
    go_loopw [5] (fun vi wr => ∃ k : Nat, vi = .int .i64 k ∧ k ≤ l.length ∧ Hid (l.take k = m.take k ∧ Below w.heap.size w wr)) (fun vi _ => l.length - (intOf vi).toNat)
    case atStart => exact ⟨0, rfl, by omega, Lib.hid ⟨rfl, Below.refl _ _⟩⟩
    case round =>
      obtain ⟨k, rfl, hkL, HI⟩ := hrel
      by_cases hlt : k < l.length
      · have hd : decide (k < l.length) = true := decide_eq_true hlt
        have ik : (k : Int) < (l.length : Int) := by omega
        have hkm : k < m.length := by rw [← HLen.out]; exact hlt
        have ikm : (k : Int) < (m.length : Int) := by omega
        obtain ⟨b, off, rfl, hbs, hcells⟩ := HR.out k hlt
        obtain ⟨b2, off2, rfl, hbs2, hcells2⟩ := HQ.out k hkm
        have hcx := (hcells k hlt).below HI.out.2
        have hcy := (hcells2 k hkm).below HI.out.2
        obtain ⟨x, hx⟩ : ∃ x, x = l[k] := ⟨_, rfl⟩
        obtain ⟨y, hy⟩ : ∃ y, y = m[k] := ⟨_, rfl⟩
        rw [← hx] at hcx
        rw [← hy] at hcy
        have HNe : Hid (∀ w, (binOp .neq 25 (Ref5.tripleV x) (Ref5.tripleV y)).run Tryz.prog w = .ok (.bool (!decide (x = y))) w) := Lib.hid (fun w => run_ne_tri x y w)
        have HOk : Hid (x = y → l.take (k + 1) = m.take (k + 1)) := Lib.hid (fun h => by
          rw [List.take_succ_eq_append_getElem hlt, List.take_succ_eq_append_getElem hkm, HI.out.1, ← hx, ← hy, h])
        have HNo : Hid (x ≠ y → decide (l = m) = false) := Lib.hid (fun h => decide_eq_false (fun h2 => h (by rw [hx, hy]; subst h2; rfl)))
        have HB := Lib.hid HI.out.2
        clear hcells hcells2 hx hy HI
        by_cases hxy : x = y
        · rw [decide_eq_true hxy] at HNe
          have HN := Lib.hid (HOk.out hxy)
          clear hxy HOk HNo
          obtain ⟨⟨sk, sx, se⟩, ⟨pk, px, pe⟩, ⟨ok, ox, oe⟩⟩ := x
          obtain ⟨⟨sk', sx', se'⟩, ⟨pk', px', pe'⟩, ⟨ok', ox', oe'⟩⟩ := y
          obtain ⟨x0, x1, x2, x3, x4, x5, x6, x7, x8⟩ := hcx
          obtain ⟨y0, y1, y2, y3, y4, y5, y6, y7, y8⟩ := hcy
          dsimp only at x0 x1 x2 x3 x4 x5 x6 x7 x8 y0 y1 y2 y3 y4 y5 y6 y7 y8
          unfold Ref5.tripleV at HNe
          dsimp only at HNe
          have hnn := HNe.out
          go_upto_region 6 with fail
          go_quiet (fail)
          have HB2 := Lib.hid (bel_drewN HB.out 1)
          go_wp2
          go_roundw
          case rel => exact ⟨k + 1, by go_num, by omega, Lib.hid ⟨HN.out, bel_drewN HB.out _⟩⟩
          case measure => simp [intOf]; omega
        · rw [decide_eq_false hxy] at HNe
          have HN := Lib.hid (HNo.out hxy)
          clear hxy HOk HNo
          obtain ⟨⟨sk, sx, se⟩, ⟨pk, px, pe⟩, ⟨ok, ox, oe⟩⟩ := x
          obtain ⟨⟨sk', sx', se'⟩, ⟨pk', px', pe'⟩, ⟨ok', ox', oe'⟩⟩ := y
          obtain ⟨x0, x1, x2, x3, x4, x5, x6, x7, x8⟩ := hcx
          obtain ⟨y0, y1, y2, y3, y4, y5, y6, y7, y8⟩ := hcy
          dsimp only at x0 x1 x2 x3 x4 x5 x6 x7 x8 y0 y1 y2 y3 y4 y5 y6 y7 y8
          unfold Ref5.tripleV at HNe
          dsimp only at HNe
          have hnn := HNe.out
          go_upto_region 6 with fail
          go_quiet (fail)
          go_wp2
          go_ret
          exact ⟨by rw [HN.out]; rfl, bel_drewN HB.out _⟩
      · have hd : decide (k < l.length) = false := decide_eq_false hlt
        have HN : Hid (decide (l = m) = true) := Lib.hid (decide_eq_true (by
          have := HI.out.1
          rwa [List.take_of_length_le (by omega), List.take_of_length_le (by rw [← HLen.out]; omega)] at this))
        have HB := Lib.hid HI.out.2
        clear HI
        go_wp2
        go_ret
        exact ⟨by rw [HN.out]; rfl, HB.out⟩
  · have hne : (l.length != m.length) = true := by simp [hlen]
    have hne2 : ((l.length : Int) != (m.length : Int)) = true := by simp; omega
    have HN : Hid (decide (l = m) = false) := Lib.hid (decide_eq_false (fun h => hlen (by rw [h])))
    clear hlen
    go_enter Tryz.func20, Tryz.ntmps20
    go_wp2
    go_ret
    exact ⟨by rw [HN.out]; rfl, Below.refl _ _⟩
end Go.Proofs.YtmcoloapiiakbaaGreatDoor.SortW
/-
  triviumref5.Print, walked.
-/
set_option linter.unusedVariables false
set_option linter.unusedSimpArgs false
namespace Go.Proofs.YtmcoloapiiakbaaGreatDoor.SortW
open Go.RowKit Go.Lib Go.Proofs.YtmcoloapiiakbaaGreatDoor.B Go.Proofs.YtmcoloapiiakbaaGreatDoor.Rd Go.Proofs.YtmcoloapiiakbaaGreatDoor.Utf Go.Proofs.YtmcoloapiiakbaaGreatDoor.TermPure Go.Proofs.YtmcoloapiiakbaaGreatDoor.LinesPure Go.Proofs.YtmcoloapiiakbaaGreatDoor.Tx Go.Proofs.YtmcoloapiiakbaaGreatDoor.Env Go.Proofs.YtmcoloapiiakbaaGreatDoor.Tri Go.Proofs.YtmcoloapiiakbaaGreatDoor.SortP Go.Proofs.YtmcoloapiiakbaaGreatDoor.Print Go.Proofs.YtmcoloapiiakbaaGreatDoor.Cmp Go.Proofs.YtmcoloapiiakbaaGreatDoor.Long

set_option maxHeartbeats 6400000 in
set_option maxRecDepth 100000 in
theorem refprint_calls (l : List Triple) (A : Option Addr) (c : Nat) (w : World) (HL : triK.sl.M w (fun k => k < w.heap.size) l [.slice A l.length c]) (hs : ∀ t ∈ l, SmallT t) (hn : (l.flatMap lineN).length ≤ 140737488355328) :
    Calls Tryz.prog 23 #[.slice A l.length c] w fun e w' => e = .returned (.string (mkS (l.flatMap lineN))) ∧ Below w.heap.size w w' := by
  have HR := Lib.hid (row_cells HL)
  have HS := Lib.hid hs
  have HN := Lib.hid hn
  have h47 := sl_len HL
  clear HL hs hn
  go_enter Tryz.func23, Tryz.ntmps23
  go_wp2
  go_loopw [3, 4] (fun v3 vi wr => ∃ (k : Nat) (S : List UInt8), vi = .int .i64 k ∧ v3 = .string (mkS S) ∧ k ≤ l.length ∧ Hid (S = (l.take k).flatMap lineN ∧ Below w.heap.size w wr)) (fun _ vi _ => l.length - (intOf vi).toNat)
  case atStart => exact ⟨0, [], rfl, rfl, by omega, Lib.hid ⟨rfl, Below.refl _ _⟩⟩
  case round =>
    obtain ⟨k, S, rfl, rfl, hkL, HI⟩ := hrel
    by_cases hlt : k < l.length
    · have hd : decide (k < l.length) = true := decide_eq_true hlt
      have ik : (k : Int) < (l.length : Int) := by omega
      obtain ⟨b, off, rfl, hbs, hcells⟩ := HR.out k hlt
      have hcx := (hcells k hlt).below HI.out.2
      obtain ⟨x, hx⟩ : ∃ x, x = l[k] := ⟨_, rfl⟩
      rw [← hx] at hcx
      have fs := HS.out x (by rw [hx]; exact List.getElem_mem hlt)
      have HT := Lib.hid (flat_take l k hlt)
      rw [← hx, ← HI.out.1] at HT
      have hle := flat_le HN.out k hlt (x := lineN x) (by rw [flat_take l k hlt, ← hx])
      rw [← HI.out.1] at hle
      have HB := Lib.hid HI.out.2
      clear hx hcells HI
      have HS1 := Lib.hid (fun w => RefCmp.show4_calls x.s fs.1 w)
      have HS2 := Lib.hid (fun w => RefCmp.show4_calls x.p fs.2.1 w)
      have HS3 := Lib.hid (fun w => RefCmp.show4_calls x.o fs.2.2 w)
      have HLN : Hid (lineN x = shown x.s ++ (32 :: (shown x.p ++ (32 :: (shown x.o ++ [32, 46, 10]))))) := Lib.hid rfl
      have hlen : (lineN x).length = (shown x.s).length + 1 + (shown x.p).length + 1 + (shown x.o).length + 3 := by rw [HLN.out]; simp; omega
      rw [hlen] at hle
      clear fs hlen
      have x0 := fun p => (hcx.bel p).c0
      have x1 := fun p => (hcx.bel p).c1
      have x2 := fun p => (hcx.bel p).c2
      have x3 := fun p => (hcx.bel p).c3
      have x4 := fun p => (hcx.bel p).c4
      have x5 := fun p => (hcx.bel p).c5
      have x6 := fun p => (hcx.bel p).c6
      have x7 := fun p => (hcx.bel p).c7
      have x8 := fun p => (hcx.bel p).c8
      obtain ⟨⟨sk, sx, se⟩, ⟨pk, px, pe⟩, ⟨ok, ox, oe⟩⟩ := x
      unfold Ref5.termV at HS1 HS2 HS3
      dsimp only at *
      generalize shown ⟨sk, sx, se⟩ = S1 at *
      generalize shown ⟨pk, px, pe⟩ = S2 at *
      generalize shown ⟨ok, ox, oe⟩ = S3 at *
      have y0 := mkS_size S
      have y1 := mkS_size S1
      have y2 := mkS_size S2
      have y3 := mkS_size S3
      have q1 : (⟨#[32]⟩ : ByteArray).size = 1 := rfl
      have q3 : (⟨#[32, 46, 10]⟩ : ByteArray).size = 3 := rfl
      have z0 : (mkS S ++ mkS S1).size = S.length + S1.length := by rw [ByteArray.size_append, y0, y1]
      have z1 : (mkS S ++ mkS S1 ++ (⟨#[32]⟩ : ByteArray)).size = S.length + S1.length + 1 := by rw [ByteArray.size_append, z0, q1]
      have z2 : (mkS S ++ mkS S1 ++ (⟨#[32]⟩ : ByteArray) ++ mkS S2).size = S.length + S1.length + 1 + S2.length := by rw [ByteArray.size_append, z1, y2]
      have z3 : (mkS S ++ mkS S1 ++ (⟨#[32]⟩ : ByteArray) ++ mkS S2 ++ (⟨#[32]⟩ : ByteArray)).size = S.length + S1.length + 1 + S2.length + 1 := by rw [ByteArray.size_append, z2, q1]
      have z4 : (mkS S ++ mkS S1 ++ (⟨#[32]⟩ : ByteArray) ++ mkS S2 ++ (⟨#[32]⟩ : ByteArray) ++ mkS S3).size = S.length + S1.length + 1 + S2.length + 1 + S3.length := by rw [ByteArray.size_append, z3, y3]
      have HCat : Hid (mkS S ++ mkS S1 ++ (⟨#[32]⟩ : ByteArray) ++ mkS S2 ++ (⟨#[32]⟩ : ByteArray) ++ mkS S3 ++ (⟨#[32, 46, 10]⟩ : ByteArray) = mkS (S ++ lineN ⟨⟨sk, sx, se⟩, ⟨pk, px, pe⟩, ⟨ok, ox, oe⟩⟩)) := Lib.hid (by
        rw [HLN.out, mkS_lit, mkS_lit, mkS_append, mkS_append, mkS_append, mkS_append, mkS_append, mkS_append]
        simp)
      go_upto_region 5 with fail
      refine QT.region_all (by kernel_rfl) (by kernel_rfl) ?_
      iterate 6 (go_big_quiet_step (fail))
      go_big_quiet_step (exact QT.Bel.call _ (HS1.out _))
      iterate 7 (go_big_quiet_step (fail))
      go_big_quiet_step (exact QT.Bel.call _ (HS2.out _))
      iterate 7 (go_big_quiet_step (fail))
      go_big_quiet_step (exact QT.Bel.call _ (HS3.out _))
      iterate 3 (go_big_quiet_step (fail))
      refine wpQuiet_nil ?_
      intro w2 hw'
      obtain ⟨⟨_, hb⟩, rfl⟩ := hw'
      have HW2 := Lib.hid (bel_step HB.out hb)
      clear hb x0 x1 x2 x3 x4 x5 x6 x7 x8 hcx HB
      go_wp2
      go_roundw
      case rel => exact ⟨k + 1, _, by go_num, by rw [HCat.out], by omega, Lib.hid ⟨HT.out.symm, HW2.out⟩⟩
      case measure => simp [intOf]; omega
    · have hd : decide (k < l.length) = false := decide_eq_false hlt
      obtain rfl : k = l.length := by omega
      have HV : Hid (S = l.flatMap lineN ∧ Below w.heap.size w wr) := Lib.hid ⟨by rw [HI.out.1, List.take_length], HI.out.2⟩
      clear HI
      go_wp2
      go_ret
      rw [← HV.out.1]
      exact ⟨rfl, HV.out.2⟩
end Go.Proofs.YtmcoloapiiakbaaGreatDoor.SortW
/-
  The law LinesSort, walked.
-/
set_option linter.unusedVariables false
set_option linter.unusedSimpArgs false
namespace Go.Proofs.YtmcoloapiiakbaaGreatDoor.LSort
open Go.RowKit Go.Lib Go.Proofs.YtmcoloapiiakbaaGreatDoor.B Go.Proofs.YtmcoloapiiakbaaGreatDoor.Rd Go.Proofs.YtmcoloapiiakbaaGreatDoor.Utf Go.Proofs.YtmcoloapiiakbaaGreatDoor.TermPure Go.Proofs.YtmcoloapiiakbaaGreatDoor.LinesPure Go.Proofs.YtmcoloapiiakbaaGreatDoor.Tx Go.Proofs.YtmcoloapiiakbaaGreatDoor.Env Go.Proofs.YtmcoloapiiakbaaGreatDoor.Tri Go.Proofs.YtmcoloapiiakbaaGreatDoor.SortP Go.Proofs.YtmcoloapiiakbaaGreatDoor.Print Go.Proofs.YtmcoloapiiakbaaGreatDoor.Cmp Go.Proofs.YtmcoloapiiakbaaGreatDoor.Long Go.Proofs.YtmcoloapiiakbaaGreatDoor.SortW

theorem line_len (t : Triple) : (lineN t).length ≤ 12 * wt t := by
  have h1 := shown_len t.s
  have h2 := shown_len t.p
  have h3 := shown_len t.o
  unfold lineN wt
  simp only [List.length_append, List.length_cons, List.length_nil]
  omega
theorem flat_small : ∀ l : List Triple, (l.flatMap lineN).length ≤ 12 * total l
  | [] => by simp
  | t :: l => by
    have := line_len t
    have := flat_small l
    rw [List.flatMap_cons, List.length_append, total]
    omega
theorem valid_of {l : List Triple} (h : l.all isTriple = true) : Valid l := fun t ht => List.all_eq_true.1 h t ht
set_option maxHeartbeats 12800000 in
set_option maxRecDepth 100000 in
theorem walk0 (w : World) (he : Env w) (l : List Triple) (A : Option Addr) (c : Nat) (HL : triK.sl.M w (fun k => k < w.heap.size) l [.slice A l.length c]) :
    Calls Tryz.prog 5 #[.slice A l.length c] w fun e w' => e = .returned (.bool true) ∧ Below w.heap.size w w' := by
  have HLg := Lib.hid (long_calls l A c w HL)
  have HR := Lib.hid (row_cells HL)
  have HFw := Lib.hid (row_fits HL)
  have h47 := sl_len HL
  have HROW : Hid (∀ w', Below w.heap.size w w' → triK.sl.M w' (fun k => k < w'.heap.size) l [.slice A l.length c]) := Lib.hid (fun w' hb => triK.sl.mono (fun k _ hk => hk) (Kd.M_below HL hb))
  have HE := Lib.hid he
  clear HL he
  go_enter Tryz.func5, Tryz.ntmps5
  by_cases htt : 9000 < total l
  · rw [decide_eq_true htt] at HLg
    go_wp2_with fail
    refine HLg.out.mono ?_
    rintro e w2 ⟨rfl, hb⟩
    have HB := Lib.hid hb
    clear hb
    go_wp2
    go_ret
    exact ⟨rfl, HB.out⟩
  have htt2 : total l ≤ 9000 := by omega
  have hlen := len_le l
  have hl3 : l.length ≤ 3000 := by omega
  have HF := Lib.hid (fits_of HFw.out htt2)
  have HSm := Lib.hid (small_of htt2)
  have hfl := flat_small l
  have HFl := Lib.hid (show (l.flatMap lineN).length ≤ 140737488355328 by omega)
  rw [decide_eq_false htt] at HLg
  have HTot := Lib.hid htt2
  clear htt htt2 hfl hlen
  go_wp2_with fail
  refine HLg.out.mono ?_
  rintro e w2 ⟨rfl, hb⟩
  have HB := Lib.hid hb
  clear hb HLg
  go_wp2
  go_loopw [3] (fun vi wr => ∃ k : Nat, vi = .int .i64 k ∧ k ≤ l.length ∧ Hid (Below w.heap.size w wr)) (fun vi _ => l.length - (intOf vi).toNat)
  case atStart => exact ⟨0, rfl, by omega, HB⟩
  case round =>
    obtain ⟨k, rfl, hkL, HW⟩ := hrel
    clear HB
    by_cases hlt : k < l.length
    · have hd : decide (k < l.length) = true := decide_eq_true hlt
      have ik : (k : Int) < (l.length : Int) := by omega
      obtain ⟨b, off, rfl, hbs, hcells⟩ := HR.out k hlt
      have hcx := (hcells k hlt).below HW.out
      obtain ⟨x, hx⟩ : ∃ x, x = l[k] := ⟨_, rfl⟩
      rw [← hx] at hcx
      have hfx := HF.out x (by rw [hx]; exact List.getElem_mem hlt)
      have hsx : wt x ≤ 9000 := Nat.le_trans (wt_le l x (by rw [hx]; exact List.getElem_mem hlt)) HTot.out
      unfold wt at hsx
      have HE2 := Lib.hid (HE.out.below HW.out)
      have HI1 := Lib.hid (fun p : QT.Bel wr => Prg.pist_calls x hfx ⟨by omega, by omega, by omega⟩ p.w (HE2.out.below p.bel))
      have HI2 := Lib.hid (fun p : QT.Bel wr => Ref5.is5_calls x hfx p.w (HE2.out.below p.bel))
      obtain ⟨r, hr⟩ : ∃ r, r = isTriple x := ⟨_, rfl⟩
      rw [← hr] at HI1 HI2
      have hrr : (r != r) = false := by cases r <;> rfl
      clear hx hr hcells hfx hsx
      have x0 := fun p => (hcx.bel p).c0
      have x1 := fun p => (hcx.bel p).c1
      have x2 := fun p => (hcx.bel p).c2
      have x3 := fun p => (hcx.bel p).c3
      have x4 := fun p => (hcx.bel p).c4
      have x5 := fun p => (hcx.bel p).c5
      have x6 := fun p => (hcx.bel p).c6
      have x7 := fun p => (hcx.bel p).c7
      have x8 := fun p => (hcx.bel p).c8
      obtain ⟨⟨sk, sx, se⟩, ⟨pk, px, pe⟩, ⟨ok, ox, oe⟩⟩ := x
      unfold Ref5.tripleV at HI1 HI2
      dsimp only at *
      go_upto_region 6 with fail
      refine QT.region_all (by kernel_rfl) (by kernel_rfl) ?_
      iterate 4 (go_big_quiet_step (fail))
      go_big_quiet_step (exact QT.Bel.call _ (HI1.out _))
      iterate 4 (go_big_quiet_step (fail))
      go_big_quiet_step (exact QT.Bel.call _ (HI2.out _))
      iterate 1 (go_big_quiet_step (fail))
      refine wpQuiet_nil ?_
      intro w2 hw'
      obtain ⟨⟨_, hb⟩, rfl⟩ := hw'
      have HW2 := Lib.hid (bel_step HW.out hb)
      clear hb x0 x1 x2 x3 x4 x5 x6 x7 x8 hcx HW
      go_wp2
      go_roundw
      case rel => exact ⟨k + 1, by go_num, by omega, HW2⟩
      case measure => simp [intOf]; omega
    · have hd : decide (k < l.length) = false := decide_eq_false hlt
      have HE2 := Lib.hid (HE.out.below HW.out)
      have HMay := Lib.hid (may_calls l A c wr HE2.out (HROW.out wr HW.out) HTot.out)
      by_cases hall : l.all isTriple = true
      · rw [hall] at HMay
        have HV := Lib.hid (valid_of hall)
        clear hall
        go_wp2_with fail
        refine HMay.out.mono ?_
        rintro e w3 ⟨rfl, hb⟩
        have HB3 := Lib.hid (bel_step HW.out hb)
        have HSort := Lib.hid (sort_calls l A c w3 (HROW.out w3 HB3.out) HSm.out HV.out (by omega))
        clear hb HMay HW HE2
        go_wp2_with fail
        refine HSort.out.mono ?_
        rintro e w4 ⟨A4, c4, rfl, hM4, hb4⟩
        have HB4 := Lib.hid (bel_step HB3.out hb4)
        have HM4 : Hid (triK.sl.M w4 (fun k => k < w4.heap.size) (sortT l) [.slice A4 (sortT l).length c4]) := Lib.hid (triK.sl.mono (fun k _ hk => hk) hM4)
        have HRS := Lib.hid (row_cells HM4.out)
        have h48 := sl_len HM4.out
        have HRise := Lib.hid (sortT_rise HV.out)
        have HSub : Hid (∀ x ∈ sortT l, SmallT x) := Lib.hid (fun x hx => HSm.out x ((sortT_mem HV.out x).1 hx))
        obtain ⟨s, hs⟩ : ∃ s, s = sortT l := ⟨_, rfl⟩
        rw [← hs] at HM4 HRS h48 HRise HSub
        rw [← hs]
        have HS := Lib.hid hs
        clear hM4 hb4 HSort hs HB3
        go_wp2
        go_loopw [5] (fun vi wr => ∃ j : Nat, vi = .int .i64 j ∧ 1 ≤ j ∧ j ≤ s.length + 1 ∧ Hid (Below w4.heap.size w4 wr)) (fun vi _ => s.length - (intOf vi).toNat)
        case atStart => exact ⟨1, by go_num, by omega, by omega, Lib.hid (Below.refl _ _)⟩
        case round =>
          obtain ⟨j, rfl, hj1, hjL, HW⟩ := hrel
          by_cases hjl : j < s.length
          · have hd2 : decide (j < s.length) = true := decide_eq_true hjl
            obtain ⟨jp, hjp⟩ : ∃ jp, jp = j - 1 := ⟨_, rfl⟩
            have hwj : IntKind.i64.wrap ((j : Int) - 1) = (jp : Int) := by rw [IntKind.wrap_i64]; omega
            have jj : (j : Int) < (s.length : Int) := by omega
            have jjp : (jp : Int) < (s.length : Int) := by omega
            have hjpl : jp < s.length := by omega
            obtain ⟨b, off, rfl, hbs, hcells⟩ := HRS.out j hjl
            have hcy := (hcells j hjl).below HW.out
            have hcx := (hcells jp hjpl).below HW.out
            obtain ⟨x, hx⟩ : ∃ x, x = s[jp] := ⟨_, rfl⟩
            obtain ⟨y, hy⟩ : ∃ y, y = s[j] := ⟨_, rfl⟩
            rw [← hx] at hcx
            rw [← hy] at hcy
            have hlt2 : ltT x y := by rw [hx, hy]; exact List.pairwise_iff_getElem.1 HRise.out jp j hjpl hjl (by omega)
            have hc1 : cmpT x y = -1 := by
              unfold ltT at hlt2
              rcases cmpT_three x y with h | h | h <;> omega
            have hc2 : cmpT y x = 1 := by rw [cmpT_swap, hc1]; rfl
            have HC1 := Lib.hid (fun w => cmp_calls x y (HSub.out x (by rw [hx]; exact List.getElem_mem _)) (HSub.out y (by rw [hy]; exact List.getElem_mem _)) w)
            have HC2 := Lib.hid (fun w => cmp_calls y x (HSub.out y (by rw [hy]; exact List.getElem_mem _)) (HSub.out x (by rw [hx]; exact List.getElem_mem _)) w)
            rw [hc1] at HC1
            rw [hc2] at HC2
            clear hcells hx hy hlt2 hc1 hc2 hjp
            have x0 := fun p => (hcx.bel p).c0
            have x1 := fun p => (hcx.bel p).c1
            have x2 := fun p => (hcx.bel p).c2
            have x3 := fun p => (hcx.bel p).c3
            have x4 := fun p => (hcx.bel p).c4
            have x5 := fun p => (hcx.bel p).c5
            have x6 := fun p => (hcx.bel p).c6
            have x7 := fun p => (hcx.bel p).c7
            have x8 := fun p => (hcx.bel p).c8
            have y0 := fun p => (hcy.bel p).c0
            have y1 := fun p => (hcy.bel p).c1
            have y2 := fun p => (hcy.bel p).c2
            have y3 := fun p => (hcy.bel p).c3
            have y4 := fun p => (hcy.bel p).c4
            have y5 := fun p => (hcy.bel p).c5
            have y6 := fun p => (hcy.bel p).c6
            have y7 := fun p => (hcy.bel p).c7
            have y8 := fun p => (hcy.bel p).c8
            obtain ⟨⟨sk, sx, se⟩, ⟨pk, px, pe⟩, ⟨ok, ox, oe⟩⟩ := x
            obtain ⟨⟨sk', sx', se'⟩, ⟨pk', px', pe'⟩, ⟨ok', ox', oe'⟩⟩ := y
            unfold Ref5.tripleV at HC1 HC2
            dsimp only at *
            go_upto_region 14 with fail
            refine QT.region_all (by kernel_rfl) (by kernel_rfl) ?_
            iterate 9 (go_big_quiet_step (fail))
            go_big_quiet_step (exact QT.Bel.call _ (HC1.out _))
            iterate 11 (go_big_quiet_step (fail))
            go_big_quiet_step (exact QT.Bel.call _ (HC2.out _))
            iterate 2 (go_big_quiet_step (fail))
            refine wpQuiet_nil ?_
            intro w2 hw'
            obtain ⟨⟨_, hb⟩, rfl⟩ := hw'
            have HW2 := Lib.hid (bel_step HW.out hb)
            clear hb x0 x1 x2 x3 x4 x5 x6 x7 x8 y0 y1 y2 y3 y4 y5 y6 y7 y8 hcx hcy HW
            go_wp2
            go_roundw
            case rel => exact ⟨j + 1, by go_num, by omega, by omega, HW2⟩
            case measure => simp [intOf]; omega
          · have hd2 : decide (j < s.length) = false := decide_eq_false hjl
            have HB5 := Lib.hid (bel_step HB4.out HW.out)
            have HRef := Lib.hid (refsort_calls l A c wr (HROW.out wr HB5.out) HSm.out (by omega))
            have HM5 : Hid (triK.sl.M wr (fun k => k < wr.heap.size) s [.slice A4 s.length c4]) := Lib.hid (triK.sl.mono (fun k _ hk => hk) (Kd.M_below HM4.out HW.out))
            rw [← HS.out] at HRef
            clear hjL hj1 hjl
            go_wp2_with fail
            refine HRef.out.mono ?_
            rintro e w5 ⟨A5, c5, rfl, hM5, hb5⟩
            have HB6 := Lib.hid (bel_step HB5.out hb5)
            have HSame := Lib.hid (same_calls s s A4 A5 c4 c5 w5 (triK.sl.mono (fun k _ hk => hk) (Kd.M_below HM5.out hb5)) hM5)
            rw [decide_eq_true rfl] at HSame
            clear hM5 hb5 HRef HM5
            go_wp2_with fail
            refine HSame.out.mono ?_
            rintro e w6 ⟨rfl, hb6⟩
            have HB7 := Lib.hid (bel_step HB6.out hb6)
            have HP := Lib.hid (print_calls l A c w6 (HROW.out w6 HB7.out) HSm.out HFl.out)
            clear hb6 HSame
            generalize hP : mkS (l.flatMap lineN) = P at *
            go_wp2_with fail
            refine HP.out.mono ?_
            rintro e w7 ⟨rfl, hb7⟩
            have HB8 := Lib.hid (bel_step HB7.out hb7)
            have HP2 := Lib.hid (refprint_calls l A c w7 (HROW.out w7 HB8.out) HSm.out HFl.out)
            rw [hP] at HP2
            clear hb7 HP hP
            go_wp2_with fail
            refine HP2.out.mono ?_
            rintro e w8 ⟨rfl, hb8⟩
            have HB9 := Lib.hid (bel_step HB8.out hb8)
            have HK := Lib.hid (Known.known_calls w8 (HE.out.below HB9.out))
            have hPP : (P.toList == P.toList) = true := beq_self_eq_true _
            clear hb8 HP2
            go_wp2_with fail
            refine HK.out.mono ?_
            rintro e w9 ⟨rfl, hb9⟩
            have HB10 := Lib.hid (bel_step HB9.out hb9)
            clear hb9 HK
            go_wp2
            go_ret
            exact ⟨rfl, HB10.out⟩
      · have hall2 : l.all isTriple = false := by simpa using hall
        rw [hall2] at HMay
        clear hall hall2
        go_wp2_with fail
        refine HMay.out.mono ?_
        rintro e w3 ⟨rfl, hb⟩
        have HB3 := Lib.hid (bel_step HW.out hb)
        have HK := Lib.hid (Known.known_calls w3 (HE.out.below HB3.out))
        clear hb HMay
        go_wp2_with fail
        refine HK.out.mono ?_
        rintro e w4 ⟨rfl, hb4⟩
        have HB4 := Lib.hid (bel_step HB3.out hb4)
        clear hb4
        go_wp2
        go_ret
        exact ⟨rfl, HB4.out⟩
theorem walk (w : World) (he : Env w) (l : List Triple) (v : Value) (m : triK.sl.M w (fun _ => True) l [v]) :
    Calls Tryz.prog 5 #[v] w fun e w' => e = .returned (.bool true) ∧ Below w.heap.size w w' := by
  obtain ⟨A, c, hv, h⟩ := id m
  obtain rfl : v = .slice A l.length c := by simpa using hv
  exact walk0 w he l A c (triK.sl.mono (fun k _ hk => hk) m)
end Go.Proofs.YtmcoloapiiakbaaGreatDoor.LSort
/-
  A text as triples, plain.
-/
set_option linter.unusedVariables false
set_option linter.unusedSimpArgs false
namespace Go.Proofs.YtmcoloapiiakbaaGreatDoor.ParseP
open Go.Lib Go.Proofs.YtmcoloapiiakbaaGreatDoor.B Go.Proofs.YtmcoloapiiakbaaGreatDoor.Utf Go.Proofs.YtmcoloapiiakbaaGreatDoor.TermPure Go.Proofs.YtmcoloapiiakbaaGreatDoor.LinesPure Go.Proofs.YtmcoloapiiakbaaGreatDoor.SortP Go.Proofs.YtmcoloapiiakbaaGreatDoor.Round

/-- A text's first line, what stands behind it, whether it ends. -/
def cutL : List UInt8 → List UInt8 × List UInt8 × Bool
  | [] => ([], [], false)
  | b :: l => if b = 10 then ([], l, true) else (b :: (cutL l).1, (cutL l).2)
theorem cutL_index : ∀ l : List UInt8, ((cutL l).2.2 = true ∧ ∃ i : Nat, index l [10] = i ∧ l.take i = (cutL l).1 ∧ l.drop (i + 1) = (cutL l).2.1) ∨ ((cutL l).2.2 = false ∧ index l [10] = -1 ∧ (cutL l).1 = l ∧ (cutL l).2.1 = [])
  | [] => .inr ⟨rfl, rfl, rfl, rfl⟩
  | b :: l => by
    rw [cutL, index]
    by_cases hb : b = 10
    · subst hb
      refine .inl ⟨by simp, 0, by simp [List.isPrefixOf], by simp, by simp⟩
    · have h1 : ([10] : List UInt8).isPrefixOf (b :: l) = false := by
        have : ((10 : UInt8) == b) = false := by rw [beq_eq_false_iff_ne]; exact fun e => hb e.symm
        simp [List.isPrefixOf, this]
      rw [h1, if_neg hb]
      rcases cutL_index l with ⟨h2, i, h3, h4, h5⟩ | ⟨h2, h3, h4, h5⟩
      · refine .inl ⟨h2, i + 1, ?_, ?_, ?_⟩
        · rw [h3]
          have : ((i : Int) == -1) = false := by rw [beq_eq_false_iff_ne]; omega
          simp [this]
        · simp [h4]
        · simp [h5]
      · exact .inr ⟨h2, by simp [h3], by simp [h4], h5⟩
theorem cutL_eq (l : List UInt8) : Lib.cut l [10] = cutL l := by
  unfold Lib.cut
  rcases cutL_index l with ⟨h2, i, h3, h4, h5⟩ | ⟨h2, h3, h4, h5⟩
  · rw [h3, if_pos (by omega)]
    simp only [Int.toNat_natCast, List.length_singleton]
    rw [h4, h5, ← h2]
  · rw [h3, if_neg (by omega), ← h2, ← h5]
    conv => rhs; rw [← Prod.eta (cutL l), h4]
theorem cutL_rest : ∀ l : List UInt8, l ≠ [] → (cutL l).2.1.length < l.length
  | [], h => absurd rfl h
  | b :: l, _ => by
    rw [cutL]
    by_cases hb : b = 10
    · rw [if_pos hb]; simp
    · rw [if_neg hb]
      by_cases hl : l = []
      · subst hl; simp [cutL]
      · have := cutL_rest l hl
        simp
        omega
theorem cutL_len : ∀ l : List UInt8, (cutL l).1.length ≤ l.length
  | [] => Nat.le_refl _
  | b :: l => by
    rw [cutL]
    by_cases hb : b = 10
    · rw [if_pos hb]; simp
    · rw [if_neg hb]
      have := cutL_len l
      simp
      omega
theorem cutL_line : ∀ (x r : List UInt8), (∀ b ∈ x, b ≠ 10) → cutL (x ++ 10 :: r) = (x, r, true)
  | [], r, _ => by rw [List.nil_append, cutL, if_pos rfl]
  | b :: x, r, h => by
    rw [List.cons_append, cutL, if_neg (h b (by simp)), cutL_line x r (fun y hy => h y (by simp [hy]))]
/-- A line, without its end. -/
def lineS (s : List UInt8) : List UInt8 := if (cutL s).2.2 = true then Lib.trimSuffix (cutL s).1 [13] else (cutL s).1
def restS (s : List UInt8) : List UInt8 := (cutL s).2.1
theorem trim_len (x : List UInt8) : (Lib.trimSuffix x [13]).length ≤ x.length := by
  unfold Lib.trimSuffix
  split
  · simp
  · exact Nat.le_refl _
theorem lineS_len (s : List UInt8) : (lineS s).length ≤ s.length := by
  have h1 := cutL_len s
  have h2 := trim_len (cutL s).1
  unfold lineS
  split <;> omega
theorem suffix_iff (x : List UInt8) : Lib.hasSuffix x [13] = true ↔ ∃ y, x = y ++ [13] := by
  unfold Lib.hasSuffix
  rw [List.isSuffixOf_iff_suffix]
  constructor
  · rintro ⟨y, rfl⟩; exact ⟨y, rfl⟩
  · rintro ⟨y, rfl⟩; exact ⟨y, rfl⟩
theorem trim_cr (x : List UInt8) : Lib.trimSuffix (x ++ [13]) [13] = x := by
  unfold Lib.trimSuffix
  rw [if_pos ((suffix_iff _).2 ⟨x, rfl⟩)]
  simp
theorem trim_no (x : List UInt8) (h : ∀ y, x ≠ y ++ [13]) : Lib.trimSuffix x [13] = x := by
  unfold Lib.trimSuffix
  rw [if_neg (fun hs => by obtain ⟨y, hy⟩ := (suffix_iff _).1 hs; exact h y hy)]
/-- A line and its end, and what stands behind it. -/
theorem line_nl (x r : List UInt8) (h : ∀ b ∈ x, b ≠ 10) (hc : ∀ y, x ≠ y ++ [13]) : lineS (x ++ 10 :: r) = x ∧ restS (x ++ 10 :: r) = r := by
  unfold lineS restS
  rw [cutL_line x r h]
  exact ⟨by rw [if_pos rfl]; exact trim_no x hc, rfl⟩
theorem line_crnl (x r : List UInt8) (h : ∀ b ∈ x, b ≠ 10) : lineS (x ++ 13 :: 10 :: r) = x ∧ restS (x ++ 13 :: 10 :: r) = r := by
  have e : x ++ 13 :: 10 :: r = (x ++ [13]) ++ 10 :: r := by simp
  unfold lineS restS
  rw [e, cutL_line (x ++ [13]) r (by intro b hb; rcases List.mem_append.1 hb with hb | hb; exact h b hb; simp at hb; subst hb; decide)]
  exact ⟨by rw [if_pos rfl]; exact trim_cr x, rfl⟩

/-- What a text is: its triples, how many lines (or the line that is none), the error. -/
abbrev Res := List Triple × Nat × Int
def pgo : Nat → List UInt8 → List Triple → Nat → Res
  | 0, _, T, n => (sortT T, n, 0)
  | f + 1, s, T, n =>
    if s = [] then (sortT T, n, 0)
    else if 200 < n + 1 then ([], n + 1, 3)
    else match lineOf false (lineS s) with
      | none => ([], n + 1, 2)
      | some none => pgo f (restS s) T (n + 1)
      | some (some t) =>
        if t ∈ T then pgo f (restS s) T (n + 1)
        else if 100 < T.length + 1 then ([], n + 1, 3)
        else pgo f (restS s) (T ++ [t]) (n + 1)
theorem pgo_nil : ∀ (f : Nat) (T : List Triple) (n : Nat), pgo f [] T n = (sortT T, n, 0)
  | 0, T, n => rfl
  | f + 1, T, n => by rw [pgo, if_pos rfl]
theorem pgo_fuel : ∀ (f g : Nat) (s : List UInt8) (T : List Triple) (n : Nat), s.length ≤ f → s.length ≤ g → pgo f s T n = pgo g s T n
  | 0, g, s, T, n, h, _ => by
    obtain rfl : s = [] := List.eq_nil_of_length_eq_zero (by omega)
    rw [pgo_nil, pgo_nil]
  | f + 1, 0, s, T, n, _, h => by
    obtain rfl : s = [] := List.eq_nil_of_length_eq_zero (by omega)
    rw [pgo_nil, pgo_nil]
  | f + 1, g + 1, s, T, n, hf, hg => by
    by_cases hs : s = []
    · subst hs; rw [pgo_nil, pgo_nil]
    · have hr : (restS s).length < s.length := cutL_rest s hs
      rw [pgo, pgo, if_neg hs, if_neg hs]
      have ih := fun T n => pgo_fuel f g (restS s) T n (by omega) (by omega)
      simp only [ih]
def pg (s : List UInt8) (T : List Triple) (n : Nat) : Res := pgo s.length s T n
theorem pg_nil (T : List Triple) (n : Nat) : pg [] T n = (sortT T, n, 0) := rfl
theorem pg_step (s : List UInt8) (T : List Triple) (n : Nat) (hs : s ≠ []) : pg s T n =
    if 200 < n + 1 then ([], n + 1, 3)
    else match lineOf false (lineS s) with
      | none => ([], n + 1, 2)
      | some none => pg (restS s) T (n + 1)
      | some (some t) =>
        if t ∈ T then pg (restS s) T (n + 1)
        else if 100 < T.length + 1 then ([], n + 1, 3)
        else pg (restS s) (T ++ [t]) (n + 1) := by
  have hr : (restS s).length < s.length := cutL_rest s hs
  have e : ∀ T n, pg (restS s) T n = pgo (s.length - 1) (restS s) T n := fun T n => pgo_fuel _ _ _ _ _ (Nat.le_refl _) (by omega)
  obtain ⟨f, hf⟩ : ∃ f, s.length = f + 1 := ⟨s.length - 1, by omega⟩
  simp only [e]
  unfold pg
  rw [hf, pgo, if_neg hs]
  rfl
theorem pg_full (s : List UInt8) (T : List Triple) (n : Nat) (hs : s ≠ []) (h : 200 < n + 1) : pg s T n = ([], n + 1, 3) := by rw [pg_step s T n hs, if_pos h]
theorem pg_bad (s : List UInt8) (T : List Triple) (n : Nat) (hs : s ≠ []) (h : ¬ 200 < n + 1) (hl : lineOf false (lineS s) = none) : pg s T n = ([], n + 1, 2) := by rw [pg_step s T n hs, if_neg h, hl]
theorem pg_none (s : List UInt8) (T : List Triple) (n : Nat) (hs : s ≠ []) (h : ¬ 200 < n + 1) (hl : lineOf false (lineS s) = some none) : pg s T n = pg (restS s) T (n + 1) := by rw [pg_step s T n hs, if_neg h, hl]
theorem pg_old (s : List UInt8) (T : List Triple) (n : Nat) (t : Triple) (hs : s ≠ []) (h : ¬ 200 < n + 1) (hl : lineOf false (lineS s) = some (some t)) (ht : t ∈ T) : pg s T n = pg (restS s) T (n + 1) := by
  rw [pg_step s T n hs, if_neg h, hl]
  dsimp only
  rw [if_pos ht]
theorem pg_many (s : List UInt8) (T : List Triple) (n : Nat) (t : Triple) (hs : s ≠ []) (h : ¬ 200 < n + 1) (hl : lineOf false (lineS s) = some (some t)) (ht : t ∉ T) (hm : 100 < T.length + 1) : pg s T n = ([], n + 1, 3) := by
  rw [pg_step s T n hs, if_neg h, hl]
  dsimp only
  rw [if_neg ht, if_pos hm]
theorem pg_new (s : List UInt8) (T : List Triple) (n : Nat) (t : Triple) (hs : s ≠ []) (h : ¬ 200 < n + 1) (hl : lineOf false (lineS s) = some (some t)) (ht : t ∉ T) (hm : ¬ 100 < T.length + 1) : pg s T n = pg (restS s) (T ++ [t]) (n + 1) := by
  rw [pg_step s T n hs, if_neg h, hl]
  dsimp only
  rw [if_neg ht, if_neg hm]
def parse (s : List UInt8) : Res := if 20000 < s.length then ([], 0, 4) else pg s [] 0
theorem lineOf_is {s : List UInt8} {t : Triple} (h : lineOf false s = some (some t)) : isTriple t = true := by
  unfold lineOf at h
  repeat' split at h
  all_goals first | (cases h; done) | (cases h; rename_i hc; exact hc.2.2) | skip
theorem putAll_mem : ∀ (l : List Triple) (T : List Triple) (x : Triple), x ∈ l.foldl (fun T t => if t ∈ T then T else T ++ [t]) T ↔ x ∈ T ∨ x ∈ l
  | [], T, x => by simp
  | t :: l, T, x => by
    rw [List.foldl_cons, putAll_mem l]
    by_cases h : t ∈ T
    · rw [if_pos h]
      simp only [List.mem_cons]
      constructor
      · rintro (h1 | h1)
        · exact .inl h1
        · exact .inr (.inr h1)
      · rintro (h1 | rfl | h1)
        · exact .inl h1
        · exact .inl h
        · exact .inr h1
    · rw [if_neg h]
      simp only [List.mem_cons, List.mem_append, List.not_mem_nil, or_false]
      constructor
      · rintro ((h1 | rfl) | h1)
        · exact .inl h1
        · exact .inr (.inl rfl)
        · exact .inr (.inr h1)
      · rintro (h1 | rfl | h1)
        · exact .inl (.inl h1)
        · exact .inl (.inr rfl)
        · exact .inr h1
/-- The triples seen so far, and those of some lines more. -/
def putAll (T l : List Triple) : List Triple := l.foldl (fun T t => if t ∈ T then T else T ++ [t]) T
theorem putAll_len : ∀ (l T : List Triple), (putAll T l).length ≤ T.length + l.length
  | [], T => Nat.le_refl _
  | t :: l, T => by
    have := putAll_len l (if t ∈ T then T else T ++ [t])
    show (putAll (if t ∈ T then T else T ++ [t]) l).length ≤ _
    by_cases h : t ∈ T
    · rw [if_pos h] at this ⊢; simp; omega
    · rw [if_neg h] at this ⊢; simp at this ⊢; omega
/-- A piece of a text that stands for some triples, in so many lines. -/
def Stands (x : List UInt8) (l : List Triple) (k : Nat) : Prop :=
  ∀ (r : List UInt8) (T : List Triple) (n : Nat), n + k ≤ 200 → T.length + l.length ≤ 100 → pg (x ++ r) T n = pg r (putAll T l) (n + k)
theorem Stands.nil : Stands [] [] 0 := fun r T n _ _ => rfl
theorem Stands.append {x y : List UInt8} {l m : List Triple} {j k : Nat} (h : Stands x l j) (h' : Stands y m k) : Stands (x ++ y) (l ++ m) (j + k) := fun r T n hn hT => by
  rw [List.length_append] at hT
  have := putAll_len l T
  rw [List.append_assoc, h (y ++ r) T n (by omega) (by omega), h' r _ (n + j) (by omega) (by omega)]
  unfold putAll
  rw [List.foldl_append, Nat.add_assoc]
theorem Stands.line {x : List UInt8} {t : Triple} (e : List UInt8) (he : e = [10] ∨ e = [13, 10]) (hx : ∀ b ∈ x, b ≠ 10) (hc : ∀ y, x ≠ y ++ [13]) (hl : lineOf false x = some (some t)) : Stands (x ++ e) [t] 1 := fun r T n hn hT => by
  obtain ⟨h1, h2⟩ : lineS (x ++ e ++ r) = x ∧ restS (x ++ e ++ r) = r := by
    rcases he with rfl | rfl
    · rw [List.append_assoc]; exact line_nl x r hx hc
    · rw [List.append_assoc]; exact line_crnl x r hx
  have hne : x ++ e ++ r ≠ [] := by rcases he with rfl | rfl <;> simp
  simp only [List.length_singleton] at hT
  by_cases ht : t ∈ T
  · rw [pg_old _ T n t hne (by omega) (by rw [h1]; exact hl) ht, h2]
    simp [putAll, ht]
  · rw [pg_new _ T n t hne (by omega) (by rw [h1]; exact hl) ht (by omega), h2]
    simp [putAll, ht]
theorem Stands.empty {x : List UInt8} (e : List UInt8) (he : e = [10] ∨ e = [13, 10]) (hx : ∀ b ∈ x, b ≠ 10) (hc : ∀ y, x ≠ y ++ [13]) (hl : lineOf false x = some none) : Stands (x ++ e) [] 1 := fun r T n hn hT => by
  obtain ⟨h1, h2⟩ : lineS (x ++ e ++ r) = x ∧ restS (x ++ e ++ r) = r := by
    rcases he with rfl | rfl
    · rw [List.append_assoc]; exact line_nl x r hx hc
    · rw [List.append_assoc]; exact line_crnl x r hx
  have hne : x ++ e ++ r ≠ [] := by rcases he with rfl | rfl <;> simp
  rw [pg_none _ T n hne (by omega) (by rw [h1]; exact hl), h2]
  rfl
theorem Stands.flat {f : Triple → List UInt8} : ∀ l : List Triple, (∀ t ∈ l, Stands (f t) [t] 1) → Stands (l.flatMap f) l l.length
  | [], _ => Stands.nil
  | t :: l, h => by
    rw [List.flatMap_cons, List.length_cons, Nat.add_comm]
    exact (h t (by simp)).append (Stands.flat l (fun u hu => h u (by simp [hu])))
theorem Stands.parse {x : List UInt8} {l : List Triple} {k : Nat} (h : Stands x l k) (hv : Valid l) (hk : k ≤ 200) (hl : l.length ≤ 100) (hx : x.length ≤ 20000) : parse x = (sortT l, k, 0) := by
  rw [ParseP.parse, if_neg (by omega)]
  have := h [] [] 0 (by omega) (by simpa using hl)
  rw [List.append_nil, pg_nil, Nat.zero_add] at this
  rw [this]
  congr 1
  have hm : ∀ y, y ∈ putAll [] l ↔ y ∈ l := fun y => by
    have := putAll_mem l [] y
    unfold putAll
    rw [this]
    simp
  refine sortT_eq hv (sortT_rise (fun y hy => hv y ((hm y).1 hy))) (fun y => ?_)
  rw [sortT_mem (fun y hy => hv y ((hm y).1 hy)), hm]
/-- A line that is none, behind some that are. -/
theorem Stands.wrong {x y r : List UInt8} {l : List Triple} {k : Nat} (h : Stands x l k) (hk : k + 1 ≤ 200) (hl : l.length ≤ 100) (hy : ∀ b ∈ y, b ≠ 10) (hc : ∀ z, y ≠ z ++ [13]) (hn : lineOf false y = none) (hx : (x ++ (y ++ 10 :: r)).length ≤ 20000) :
    ParseP.parse (x ++ (y ++ 10 :: r)) = ([], k + 1, 2) := by
  obtain ⟨h1, h2⟩ := line_nl y r hy hc
  rw [ParseP.parse, if_neg (by omega), h _ [] 0 (by omega) (by simpa using hl), pg_bad _ _ _ (by simp) (by omega) (by rw [h1]; exact hn), Nat.zero_add]

/-! ### what is shown has no line's end -/
theorem esc_nonl_all : ∀ k : Fin 128, ∀ x ∈ escB (UInt8.ofNat k.val), x ≠ 10 ∧ x ≠ 13 := by decide +kernel
theorem escB_nonl (b : UInt8) : ∀ x ∈ escB b, x ≠ 10 ∧ x ≠ 13 := by
  by_cases h : b.toNat < 128
  · obtain ⟨k, rfl⟩ := byte_eq b h
    exact esc_nonl_all k
  · rw [escB_high b (by omega)]
    intro x hx
    simp at hx
    subst hx
    constructor
    · intro e; subst e; exact h (by decide)
    · intro e; subst e; exact h (by decide)
def NoNl (l : List UInt8) : Prop := ∀ b ∈ l, b ≠ 10 ∧ b ≠ 13
theorem NoNl.append {a b : List UInt8} (h : NoNl a) (h' : NoNl b) : NoNl (a ++ b) := fun x hx => (List.mem_append.1 hx).elim (h x) (h' x)
theorem NoNl.cons {c : UInt8} {b : List UInt8} (h : c ≠ 10 ∧ c ≠ 13) (h' : NoNl b) : NoNl (c :: b) := fun x hx => by
  rcases List.mem_cons.1 hx with rfl | hx
  · exact h
  · exact h' x hx
theorem NoNl.nil : NoNl [] := fun x hx => by cases hx
theorem NoNl.of_iri {s : List UInt8} (h : isIRI s = true) : NoNl s := fun b hb => by
  have hi := iri_bytes h b hb
  constructor
  all_goals
    intro e
    subst e
    exact absurd (hi (by decide)) (by decide)
theorem NoNl.of_label {s : List UInt8} (h : isLabel s = true) : NoNl s := fun b hb => by
  have hi := label_bytes h b hb
  constructor
  all_goals
    intro e
    subst e
    exact absurd hi (by decide)
theorem NoNl.of_lang {s : List UInt8} (h : isLang s = true) : NoNl s := fun b hb => by
  unfold isLang at h
  simp only [Bool.and_eq_true] at h
  have hi := lang_bytes s false 0 h.1 b hb
  constructor
  all_goals
    intro e
    subst e
    exact absurd hi (by decide)
theorem NoNl.quoted (s : List UInt8) : NoNl (TermPure.quoted s) :=
  NoNl.cons (by decide) (NoNl.append (fun x hx => by
    obtain ⟨b, _, hb⟩ := List.mem_flatMap.1 hx
    exact escB_nonl b x hb) (NoNl.cons (by decide) NoNl.nil))
theorem NoNl.shown {t : Term} (h : is t = true) : NoNl (shown t) := by
  rcases is_cases h with ⟨hk, h1, h2⟩ | ⟨hk, h1, h2⟩ | ⟨hk, h1, h2⟩ | ⟨hk, h1, h2⟩ | ⟨hk, h1, h2⟩
  all_goals
    unfold TermPure.shown
    rw [hk]
  · exact NoNl.cons (by decide) (NoNl.append (NoNl.of_iri h1) (NoNl.cons (by decide) NoNl.nil))
  · exact NoNl.cons (by decide) (NoNl.cons (by decide) (NoNl.of_label h1))
  · exact NoNl.quoted _
  · exact NoNl.append (NoNl.quoted _) (NoNl.cons (by decide) (NoNl.of_lang h2))
  · exact NoNl.append (NoNl.quoted _) (NoNl.cons (by decide) (NoNl.cons (by decide) (NoNl.cons (by decide) (NoNl.append (NoNl.of_iri h2) (NoNl.cons (by decide) NoNl.nil)))))
theorem NoNl.line {x : List UInt8} (h : NoNl x) : (∀ b ∈ x, b ≠ 10) ∧ ∀ y, x ≠ y ++ [13] :=
  ⟨fun b hb => (h b hb).1, fun y e => (h 13 (by rw [e]; simp)).2 rfl⟩
theorem isT_parts {t : Triple} (h : isTriple t = true) : is t.s = true ∧ is t.p = true ∧ is t.o = true := by
  unfold isTriple at h
  simp only [Bool.and_eq_true] at h
  exact ⟨h.1, h.2.1, h.2.2.1⟩
theorem NoNl.lineT {t : Triple} (h : isTriple t = true) : NoNl (Round.lineT t) := by
  obtain ⟨h1, h2, h3⟩ := isT_parts h
  exact NoNl.append (NoNl.shown h1) (NoNl.cons (by decide) (NoNl.append (NoNl.shown h2) (NoNl.cons (by decide) (NoNl.append (NoNl.shown h3) (NoNl.cons (by decide) (NoNl.cons (by decide) NoNl.nil))))))
theorem Stands.shown {t : Triple} (h : isTriple t = true) : Stands (Round.lineT t ++ [10]) [t] 1 :=
  Stands.line [10] (.inl rfl) (NoNl.lineT h).line.1 (NoNl.lineT h).line.2 (lineOf_shown h)
/-- How great a triple may be. -/
theorem is_small {t : Term} (h : is t = true) : t.text.length ≤ 60 ∧ t.extra.length ≤ 60 ∧ 1 ≤ t.kind ∧ t.kind ≤ 5 := by
  rcases is_cases h with ⟨hk, h1, h2⟩ | ⟨hk, h1, h2⟩ | ⟨hk, h1, h2⟩ | ⟨hk, h1, h2⟩ | ⟨hk, h1, h2⟩
  · unfold isIRI at h1
    simp only [Bool.and_eq_true, decide_eq_true_eq] at h1
    rw [h2, hk]
    exact ⟨h1.2.1, by simp, by decide, by decide⟩
  · unfold isLabel at h1
    simp only [Bool.and_eq_true, decide_eq_true_eq] at h1
    rw [h2, hk]
    exact ⟨by omega, by simp, by decide, by decide⟩
  · unfold isText at h1
    simp only [Bool.and_eq_true, decide_eq_true_eq] at h1
    rw [h2, hk]
    exact ⟨by omega, by simp, by decide, by decide⟩
  · unfold isText at h1
    unfold isLang at h2
    simp only [Bool.and_eq_true, decide_eq_true_eq] at h1 h2
    rw [hk]
    exact ⟨by omega, by omega, by decide, by decide⟩
  · unfold isText at h1
    unfold isIRI at h2
    simp only [Bool.and_eq_true, decide_eq_true_eq] at h1 h2
    rw [hk]
    exact ⟨by omega, by omega, by decide, by decide⟩
end Go.Proofs.YtmcoloapiiakbaaGreatDoor.ParseP
/-
  A map that a call made, its keys triples, its elements true.
-/
set_option linter.unusedVariables false
set_option linter.unusedSimpArgs false
namespace Go.Proofs.YtmcoloapiiakbaaGreatDoor.MapT
open Go.RowKit Go.Proofs.YtmcoloapiiakbaaGreatDoor.B Go.Proofs.YtmcoloapiiakbaaGreatDoor.Rd Go.Proofs.YtmcoloapiiakbaaGreatDoor.TermPure Go.Proofs.YtmcoloapiiakbaaGreatDoor.LinesPure Go.Proofs.YtmcoloapiiakbaaGreatDoor.Ref5 Go.Proofs.YtmcoloapiiakbaaGreatDoor.Tri

theorem check_int (em : Bool) (d : Nat) (k : Int) (w : World) : (Instr.checkKey em (d + 1) 3 (.int .i64 k)).run Tryz.prog w = .ok () w := by
  have u3 := Tryz.underlying3
  simp [Instr.checkKey, run_underlying u3]
theorem check_str (em : Bool) (d : Nat) (k : ByteArray) (w : World) : (Instr.checkKey em (d + 1) 9 (.string k)).run Tryz.prog w = .ok () w := by
  have u9 := Tryz.underlying9
  simp [Instr.checkKey, run_underlying u9]
theorem check_term (em : Bool) (d : Nat) (x : Term) (w : World) : (Instr.checkKey em (d + 2) 23 (.agg #[.int .i64 x.kind, .string (mkS x.text), .string (mkS x.extra)])).run Tryz.prog w = .ok () w := by
  have u := Tryz.underlying23
  have a3 := Tryz.isAgg3
  have z3 := Tryz.sizeOf3
  have a9 := Tryz.isAgg9
  have z9 := Tryz.sizeOf9
  have c3 := fun k w => check_int em d k w
  have c9 := fun k w => check_str em d k w
  unfold Instr.checkKey
  simp [run_underlying u]
  go_simp
theorem check_tri (em : Bool) (x : Triple) (w : World) : (Instr.checkKey em 10000 25 (tripleV x)).run Tryz.prog w = .ok () w := by
  have u := Tryz.underlying25
  have a23 := Tryz.isAgg23
  have z23 := Tryz.sizeOf23
  have c := fun (x : Term) w => check_term em 9997 x w
  unfold tripleV
  rw [show (10000 : Nat) = 9999 + 1 from rfl]
  unfold Instr.checkKey
  simp [run_underlying u]
  go_simp
theorem equal_tri (x y : Triple) (w : World) : (Op.equal 25 (tripleV x) (tripleV y)).run Tryz.prog w = .ok (decide (x = y)) w := by
  have h := TriEq.run_eq_tri x y w
  unfold tripleV at *
  rw [run_eql_struct] at h
  unfold Op.equal Op.maxDepth
  generalize (Op.equalIn 10000 25 _ _).run Tryz.prog w = r at *
  cases r with
  | ok b w' =>
    simp [Result.andThen] at h ⊢
    exact h
  | _ => simp [Result.andThen] at h
/-- What is found. -/
theorem ask_tri (t : Triple) (w : World) : ∀ (es : List MapEntry) (T : List Triple) (i : Nat), es.map (fun e => (e.key, e.val)) = T.map (fun t => (tripleV t, Value.bool true)) →
    ∃ r, (Instr.findAsking 25 (tripleV t) es i).run Tryz.prog w = .ok r w ∧ ((t ∈ T ∧ ∃ j, r = some (j, .bool true)) ∨ (t ∉ T ∧ r = none))
  | [], [], i, _ => ⟨none, by simp [Instr.findAsking], .inr ⟨by simp, rfl⟩⟩
  | [], _ :: _, _, h => by simp at h
  | _ :: _, [], _, h => by simp at h
  | e :: es, x :: T, i, h => by
    simp at h
    obtain ⟨⟨h1, h2⟩, h3⟩ := h
    have he := equal_tri t x w
    rw [← h1] at he
    by_cases hx : t = x
    · rw [decide_eq_true hx] at he
      refine ⟨some (i, .bool true), ?_, .inl ⟨by simp [hx], i, rfl⟩⟩
      simp [Instr.findAsking, he, h2]
    · rw [decide_eq_false hx] at he
      obtain ⟨r, hr, hc⟩ := ask_tri t w es T (i + 1) (by simpa using h3)
      refine ⟨r, by simp [Instr.findAsking, he, hr], ?_⟩
      simpa [hx] using hc
theorem find_tri (t : Triple) (w : World) (es : List MapEntry) (T : List Triple) (h : es.map (fun e => (e.key, e.val)) = T.map (fun t => (tripleV t, Value.bool true))) :
    ∃ r, (Instr.findKey 25 (tripleV t) es).run Tryz.prog w = .ok r w ∧ ((t ∈ T ∧ ∃ j, r = some (j, .bool true)) ∨ (t ∉ T ∧ r = none)) := by
  rw [show (Instr.findKey 25 (tripleV t) es).run Tryz.prog w = (Instr.findAsking 25 (tripleV t) es).run Tryz.prog w from run_findKey_eq _ (by kernel_rfl) _ _]
  exact ask_tri t w es T 0 h
/-- The map b holds just the triples T. -/
def MapAt (w : World) (b : Nat) (T : List Triple) : Prop := ∃ es clock, w.heap[b]? = some (.map es clock) ∧ es.toList.map (fun e => (e.key, e.val)) = T.map (fun t => (tripleV t, Value.bool true))
theorem MapAt.new (w : World) : MapAt (w.alloc (.map #[] 0)) w.heap.size [] := ⟨#[], 0, Kd.heap_new _ _, rfl⟩
theorem MapAt.lt {w : World} {b : Nat} {T : List Triple} (h : MapAt w b T) : b < w.heap.size := by
  obtain ⟨es, c, h1, _⟩ := h
  exact (Array.getElem?_eq_some_iff.1 h1).1
theorem MapAt.moved {w w' : World} {b : Nat} {T : List Triple} (h : MapAt w b T) (hm : w'.heap[b]? = w.heap[b]?) : MapAt w' b T := by
  obtain ⟨es, c, h1, h2⟩ := h
  exact ⟨es, c, hm.trans h1, h2⟩
theorem MapAt.below {w w' : World} {b : Nat} {T : List Triple} (h : MapAt w b T) (hb : Below w.heap.size w w') : MapAt w' b T := h.moved (hb.block b h.lt)
theorem run_look {w : World} {b : Nat} {T : List Triple} (h : MapAt w b T) (t : Triple) : (Instr.lookup 72 (.map (some b)) (tripleV t) false).run Tryz.prog w = .ok (.bool (decide (t ∈ T))) w := by
  obtain ⟨es, clock, hb, he⟩ := h
  obtain ⟨r, hr, hc⟩ := find_tri t w es.toList T he
  have hk := fun em => check_tri em t w
  have hz : (zeroValue 4).run Tryz.prog w = .ok (.bool false) w := Tryz.zeroValue4 w
  rcases hc with ⟨h1, j, rfl⟩ | ⟨h1, rfl⟩
  · simp [Instr.lookup, run_underlying Tryz.underlying72, MapKept.run_getObj_map hb, MapKept.run_setObj_map _ hb, hk, hr, h1]
  · simp [Instr.lookup, run_underlying Tryz.underlying72, MapKept.run_getObj_map hb, MapKept.run_setObj_map _ hb, hk, hr, h1, hz]
theorem run_put {w : World} {b : Nat} {T : List Triple} (h : MapAt w b T) (t : Triple) (ht : t ∉ T) : ∃ w', (Instr.mapUpdate 72 (.map (some b)) (tripleV t) (.bool true)).run Tryz.prog w = .ok () w' ∧ MapAt w' b (T ++ [t]) ∧ w.grownBy w' (some b) := by
  obtain ⟨es, clock, hb, he⟩ := h
  obtain ⟨r, hr, hc⟩ := find_tri t w es.toList T he
  have hk := fun em => check_tri em t w
  rcases hc with ⟨h1, j, rfl⟩ | ⟨h1, rfl⟩
  · exact absurd h1 ht
  · have hlt : b < w.heap.size := (Array.getElem?_eq_some_iff.1 hb).1
    refine ⟨{ w with heap := w.heap.setIfInBounds b (.map (es.push { key := tripleV t, val := .bool true, born := clock }) (clock + 1)) }, ?_, ⟨es.push { key := tripleV t, val := .bool true, born := clock }, clock + 1, ?_, ?_⟩, ?_⟩
    · simp [Instr.mapUpdate, run_underlying Tryz.underlying72, MapKept.run_getObj_map hb, MapKept.run_setObj_map _ hb, hk, hr]
    · simp [hlt]
    · simp [he]
    · exact ⟨rfl, rfl, rfl, by simp, fun k hk hne => by
        have hkb : b ≠ k := fun e => hne (by rw [e])
        simp [Array.getElem?_setIfInBounds, hkb]⟩
end Go.Proofs.YtmcoloapiiakbaaGreatDoor.MapT
/-
  lines.Parse walked.
-/
set_option linter.unusedVariables false
set_option linter.unusedSimpArgs false
namespace Go.Proofs.YtmcoloapiiakbaaGreatDoor.Parse
open Go.RowKit Go.Lib Go.Proofs.YtmcoloapiiakbaaGreatDoor.B Go.Proofs.YtmcoloapiiakbaaGreatDoor.Rd Go.Proofs.YtmcoloapiiakbaaGreatDoor.Utf Go.Proofs.YtmcoloapiiakbaaGreatDoor.TermPure Go.Proofs.YtmcoloapiiakbaaGreatDoor.LinesPure Go.Proofs.YtmcoloapiiakbaaGreatDoor.Tx Go.Proofs.YtmcoloapiiakbaaGreatDoor.Env Go.Proofs.YtmcoloapiiakbaaGreatDoor.Tri Go.Proofs.YtmcoloapiiakbaaGreatDoor.SortP Go.Proofs.YtmcoloapiiakbaaGreatDoor.Print Go.Proofs.YtmcoloapiiakbaaGreatDoor.Cmp Go.Proofs.YtmcoloapiiakbaaGreatDoor.Long Go.Proofs.YtmcoloapiiakbaaGreatDoor.SortW Go.Proofs.YtmcoloapiiakbaaGreatDoor.ParseP Go.Proofs.YtmcoloapiiakbaaGreatDoor.MapT

theorem cut_calls (s : List UInt8) (hs : s.length ≤ 1000000) (w : World) (he : Env w) :
    Calls Tryz.prog 48 #[.string (mkS s), .string (mkS [10])] w fun e w' => e = .returned (.tuple #[.string (mkS (cutL s).1), .string (mkS (cutL s).2.1), .bool (cutL s).2.2]) ∧ Below w.heap.size w w' := by
  obtain ⟨m, hm⟩ := he.len
  refine (Tryz.strings_Cut (mkS s) (mkS [10]) m w (by rw [mkS_size]; omega) hm).mono ?_
  rintro e w' ⟨rfl, n, rfl⟩
  rw [mkS_data, mkS_data, cutL_eq]
  exact ⟨rfl, bel_drewN (Below.refl _ _) _⟩
theorem trimCr_calls (s : List UInt8) (hs : s.length ≤ 1000000) (w : World) :
    Calls Tryz.prog 49 #[.string (mkS s), .string (mkS [13])] w fun e w' => e = .returned (.string (mkS (Lib.trimSuffix s [13]))) ∧ w = w' :=
  (Tryz.strings_TrimSuffix (mkS s) (mkS [13]) w (by rw [mkS_size]; omega)).mono fun e w' ⟨h1, h2⟩ => ⟨h1, h2.symm⟩
def FF : Nat → Prop := fun _ => False
/-- What a text's Parse answers. -/
def Parsed (w : World) (r : Res) (e : Ending) (w' : World) : Prop :=
  ∃ A c, e = .returned (.tuple #[.slice A r.1.length c, .int .i64 r.2.1, .int .i64 r.2.2]) ∧ triK.sl.M w' (fun k => w.heap.size ≤ k ∧ k < w'.heap.size) r.1 [.slice A r.1.length c] ∧ Below w.heap.size w w'
theorem Parsed.err {w w' : World} (n : Nat) (x : Int) (hb : Below w.heap.size w w') : Parsed w ([], n, x) (.returned (.tuple #[.slice none 0 0, .int .i64 n, .int .i64 x])) w' :=
  ⟨none, 0, rfl, ⟨none, 0, rfl, Nat.le_refl _, ⟨Nat.zero_le _, Nat.zero_le _⟩, fun _ => rfl, Kd.row_nil _ _ _ _⟩, hb⟩
structure St (w wr : World) (v : Value) (T : List Triple) : Prop where
  map : MapT.MapAt wr w.heap.size T
  row : triK.own 25 wr (w.heap.size + 1) FF v T
  valid : Valid T
  bel : Below w.heap.size w wr
theorem St.below {w wr w1 : World} {v : Value} {T : List Triple} (h : St w wr v T) (hb : Below wr.heap.size wr w1) : St w w1 v T := ⟨h.map.below hb, Kd.own_below h.row hb, h.valid, bel_step h.bel hb⟩
theorem valid_small {t : Triple} (h : isTriple t = true) : SmallT t ∧ FitsW3 t := by
  obtain ⟨h1, h2, h3⟩ := isT_parts h
  have k1 := is_small h1
  have k2 := is_small h2
  have k3 := is_small h3
  unfold SmallT FitsW3 FitsW
  omega
theorem new_row {w wr w1 : World} {v v1 : Value} {T : List Triple} {t : Triple} (h : St w wr v T) (hm : MapT.MapAt w1 w.heap.size (T ++ [t])) (hr : triK.own 25 w1 (w.heap.size + 1) FF v1 (T ++ [t])) (ht : isTriple t = true) (hb : Below w.heap.size w w1) : St w w1 v1 (T ++ [t]) :=
  ⟨hm, hr, fun x hx => (List.mem_append.1 hx).elim (h.valid x) (fun hx => by simp at hx; subst hx; exact ht), hb⟩
set_option maxHeartbeats 6400000 in
set_option maxRecDepth 100000 in
theorem parse_calls (s : List UInt8) (hs : s.length ≤ 140737488355328) (w : World) (he : Env w) :
    Calls Tryz.prog 24 #[.string (mkS s)] w (Parsed w (parse s)) := by
  have z := mkS_size s
  by_cases hl : 20000 < s.length
  · have hP : Hid (parse s = ([], 0, 4)) := Lib.hid (by rw [parse, if_pos hl])
    have hd : decide (20000 < s.length) = true := decide_eq_true hl
    clear he
    go_enter Tryz.func24, Tryz.ntmps24
    go_wp2
    go_step3
    go_wp2
    simp (config := { zetaDelta := true }) only [Exit.inBlock, Exit.noGoto_ret, Exit.then]
    go_ret3
    rw [hP.out]
    exact Parsed.err 0 4 (Below.refl _ _)
  · have hle : s.length ≤ 20000 := by omega
    have hd : decide (20000 < s.length) = false := decide_eq_false hl
    have HP : Hid (pg s [] 0 = parse s) := Lib.hid (by rw [parse, if_neg hl])
    have hmm := @run_makeMap Tryz.prog
    have HE := Lib.hid he
    have HM0 := Lib.hid (MapT.MapAt.new w)
    clear he hl
    go_enter Tryz.func24, Tryz.ntmps24
    go_wp2
    go_step3
    go_wp2
    go_step3
    go_wp2
    go_loopg [0, 6, 7] (s.length) (fun k v0 v6 v7 wr => ∃ (r : List UInt8) (T : List Triple) (n : Nat) (u : Value), u = v6 ∧ Hid (r.length = k) ∧ v0 = .string (mkS r) ∧ v7 = .int .i64 n ∧ n ≤ 200 ∧ r.length ≤ 20000 ∧ T.length ≤ 100 ∧ Hid (St w wr u T) ∧ Hid (pg r T n = parse s))
    case atStart => exact ⟨s, [], 0, _, rfl, Lib.hid rfl, rfl, rfl, by omega, hle, by simp, Lib.hid ⟨HM0.out, Kd.own_nil _ _ _ _ _, fun _ h => (by cases h), bel_alloc (Below.refl _ _) _⟩, HP⟩
    case round =>
      obtain ⟨r, T, n, u, rfl, HK, rfl, rfl, hn, hr, hT, HS, HG⟩ := hrel
      clear HM0 HP z hd hle hs
      have z := mkS_size r
      have zl := mkS_toList r
      by_cases hr0 : r = []
      · have HR : Hid (parse s = (sortT T, n, 0)) := Lib.hid (by rw [← HG.out, hr0, pg_nil])
        subst hr0
        obtain ⟨A, c, rfl, _, _⟩ := Kd.own_slice HS.out.row
        have HSort := Lib.hid (sort_calls T A c wr (Kd.M_bound (Kd.own_sl (ok' := TT) HS.out.row (fun _ _ => trivial) (fun _ _ => trivial))) (fun t ht => (valid_small (HS.out.valid t ht)).1) HS.out.valid (by omega))
        go_wp2_with fail
        refine HSort.out.mono ?_
        rintro e w' ⟨A2, c2, rfl, hM, hb⟩
        have HF : Hid (triK.sl.M w' (fun k => w.heap.size ≤ k ∧ k < w'.heap.size) (sortT T) [.slice A2 (sortT T).length c2] ∧ Below w.heap.size w w') := Lib.hid ⟨triK.sl.mono (fun k hk _ => ⟨Nat.le_trans HS.out.bel.size hk.1, hk.2⟩) hM, bel_step HS.out.bel hb⟩
        clear hM hb HSort
        go_wp2
        go_ret3
        rw [HR.out]
        exact ⟨A2, c2, rfl, HF.out.1, HF.out.2⟩
      · have hE : r.isEmpty = false := by
          cases r with
          | nil => exact absurd rfl hr0
          | cons b l => rfl
        have HE1 := Lib.hid (HE.out.below HS.out.bel)
        have HCut := Lib.hid (cut_calls r (by omega) wr HE1.out)
        obtain ⟨b, hb⟩ : ∃ b, b = (cutL r).2.2 := ⟨_, rfl⟩
        obtain ⟨x, hx⟩ : ∃ x, x = (cutL r).1 := ⟨_, rfl⟩
        obtain ⟨q, hq⟩ : ∃ q, q = restS r := ⟨_, rfl⟩
        obtain ⟨y, hy⟩ : ∃ y, y = lineS r := ⟨_, rfl⟩
        have hxl : x.length ≤ 20000 := by have := cutL_len r; rw [hx]; omega
        have hyl : y.length ≤ 20000 := by have := lineS_len r; rw [hy]; omega
        have hql : q.length < r.length := by rw [hq]; exact cutL_rest r hr0
        have HY : Hid (y = if b = true then Lib.trimSuffix x [13] else x) := Lib.hid (by rw [hy, hb, hx]; rfl)
        rw [← hb, ← hx, show (cutL r).2.1 = q from hq.symm] at HCut
        have HTrim := Lib.hid (fun w => trimCr_calls x (by omega) w)
        have HFull : Hid (200 < n + 1 → parse s = ([], n + 1, 3)) := Lib.hid (fun h => by rw [← HG.out, pg_full r T n hr0 h])
        have HBad : Hid (¬ 200 < n + 1 → lineOf false y = none → parse s = ([], n + 1, 2)) := Lib.hid (fun h h1 => by rw [← HG.out, pg_bad r T n hr0 h (by rw [← hy]; exact h1)])
        have HNone : Hid (¬ 200 < n + 1 → lineOf false y = some none → pg q T (n + 1) = parse s) := Lib.hid (fun h h1 => by rw [← HG.out, pg_none r T n hr0 h (by rw [← hy]; exact h1), hq])
        have HOld : Hid (∀ t, ¬ 200 < n + 1 → lineOf false y = some (some t) → t ∈ T → pg q T (n + 1) = parse s) := Lib.hid (fun t h h1 h2 => by rw [← HG.out, pg_old r T n t hr0 h (by rw [← hy]; exact h1) h2, hq])
        have HMany : Hid (∀ t, ¬ 200 < n + 1 → lineOf false y = some (some t) → t ∉ T → 100 < T.length + 1 → parse s = ([], n + 1, 3)) := Lib.hid (fun t h h1 h2 h3 => by rw [← HG.out, pg_many r T n t hr0 h (by rw [← hy]; exact h1) h2 h3])
        have HNew : Hid (∀ t, ¬ 200 < n + 1 → lineOf false y = some (some t) → t ∉ T → ¬ 100 < T.length + 1 → pg q (T ++ [t]) (n + 1) = parse s) := Lib.hid (fun t h h1 h2 h3 => by rw [← HG.out, pg_new r T n t hr0 h (by rw [← hy]; exact h1) h2 h3, hq])
        have HOne := Lib.hid (fun w he => Prg.one_calls y (by omega) w he)
        have HQ : Hid (q.length < gk ∧ q.length ≤ 20000) := Lib.hid (by rw [← HK.out]; omega)
        clear hb hx hq hy HG HK HE1
        go_wp2_with fail
        refine HCut.out.mono ?_
        rintro e w1 ⟨rfl, hb1⟩
        have HS1 := Lib.hid (HS.out.below hb1)
        clear hb1 HCut HS hql z zl hr hr0 hE
        go_upto_if 27 with fail
        go_cut [8] (fun v8 wx => v8 = .string (mkS y) ∧ Hid (St w wx u T))
        case first =>
          cases b
          · have HY2 : Hid (mkS y = mkS x) := Lib.hid (by rw [HY.out]; rfl)
            go_wp2_with fail
            go_meet
            exact ⟨by rw [HY2.out], HS1⟩
          · have HY2 : Hid (mkS y = mkS (Lib.trimSuffix x [13])) := Lib.hid (by rw [HY.out]; rfl)
            generalize hts : mkS (Lib.trimSuffix x [13]) = tx at *
            go_wp2_with fail
            refine (HTrim.out _).mono ?_
            rintro e w2 ⟨rfl, rfl⟩
            clear hts HTrim
            go_wp2_with fail
            go_meet
            exact ⟨by rw [HY2.out], HS1⟩
        case rest =>
          obtain ⟨rfl, HS2⟩ := hcut
          clear HTrim HY HS1 hxl
          by_cases hf : 200 < n + 1
          · have hd : decide ((200 : Int) < (n : Int) + 1) = true := decide_eq_true (by omega)
            have HR := Lib.hid (HFull.out hf)
            go_wp2
            go_ret3
            rw [HR.out]
            exact Parsed.err (n + 1) 3 HS2.out.bel
          · have hd : decide ((200 : Int) < (n : Int) + 1) = false := decide_eq_false (by omega)
            have HO := Lib.hid (HOne.out _ (HE.out.below HS2.out.bel))
            clear HOne
            rcases h : lineOf false y with _ | _ | t
            · have HR := Lib.hid (HBad.out hf h)
              rw [h] at HO
              clear HBad HNone HOld HMany HNew HFull h
              unfold Ref5.oneV at HO
              dsimp only at HO
              go_wp2_with fail
              refine HO.out.mono ?_
              rintro e w3 ⟨⟨rfl, _⟩, hb3⟩
              have HS3 := Lib.hid (HS2.out.below hb3)
              clear hb3 HO
              unfold Ref5.tripleV Ref5.zeroTr Tc.zeroT
              dsimp only
              go_wp2
              go_ret3
              rw [HR.out]
              exact Parsed.err (n + 1) 2 (bel_alloc HS3.out.bel _)
            · have HR := Lib.hid (HNone.out hf h)
              rw [h] at HO
              clear HBad HNone HOld HMany HNew HFull h
              unfold Ref5.oneV at HO
              dsimp only at HO
              go_wp2_with fail
              refine HO.out.mono ?_
              rintro e w3 ⟨⟨rfl, _⟩, hb3⟩
              have HS3 := Lib.hid (HS2.out.below hb3)
              clear hb3 HO
              unfold Ref5.tripleV Ref5.zeroTr Tc.zeroT
              dsimp only
              go_wp2
              go_roundg q.length
              case measure => exact HQ.out.1
              case rel => exact ⟨q, T, n + 1, _, rfl, Lib.hid rfl, rfl, by go_num, by omega, HQ.out.2, hT, Lib.hid (HS3.out.below (bel_alloc (Below.refl _ _) _)), HR⟩
            · have HIs := Lib.hid (lineOf_is h)
              rw [h] at HO
              obtain ⟨hst, hft⟩ := valid_small HIs.out
              have HR1 : Hid (t ∈ T → pg q T (n + 1) = parse s) := Lib.hid (fun ht => HOld.out t hf h ht)
              have HR2 : Hid (t ∉ T → 100 < T.length + 1 → parse s = ([], n + 1, 3)) := Lib.hid (fun ht => HMany.out t hf h ht)
              have HR3 : Hid (t ∉ T → ¬ 100 < T.length + 1 → pg q (T ++ [t]) (n + 1) = parse s) := Lib.hid (fun ht => HNew.out t hf h ht)
              clear HBad HNone HOld HMany HNew HFull h hst
              unfold Ref5.oneV at HO
              dsimp only at HO
              go_wp2_with fail
              refine HO.out.mono ?_
              rintro e w3 ⟨⟨rfl, _⟩, hb3⟩
              have hlt3 : w.heap.size < w3.heap.size := (HS2.out.below hb3).map.lt
              have HS3 := Lib.hid ((HS2.out.below hb3).below (bel_alloc (Below.refl _ _) (.cells (triL t).toArray 25)))
              have HC3 := Lib.hid (C9.new w3 t)
              clear hb3 HO HS2
              by_cases ht : t ∈ T
              · have hlook := run_look HS3.out.map t
                rw [decide_eq_true ht] at hlook
                have HR := Lib.hid (HR1.out ht)
                clear HR1 HR2 HR3 ht
                unfold Ref5.tripleV triL at hlook
                unfold Ref5.tripleV
                go_wp2
                go_roundg q.length
                case measure => exact HQ.out.1
                case rel => exact ⟨q, T, n + 1, _, rfl, Lib.hid rfl, rfl, by go_num, by omega, HQ.out.2, hT, HS3, HR⟩
              · have hlook := run_look HS3.out.map t
                rw [decide_eq_false ht] at hlook
                obtain ⟨w4, hput, hm4, hg4⟩ := run_put HS3.out.map t ht
                have HM4 := Lib.hid hm4
                have hrow4 := Kd.own_grown HS3.out.row hg4 (fun k hk => hk.elim) (fun k hk => by have := Kd.own_lt HS3.out.row k hk; intro e; have e2 : k = w.heap.size := (by simpa using e); omega)
                have HRow4 := Lib.hid hrow4
                have hne : w3.heap.size ≠ w.heap.size := by omega
                have hbase : w.heap.size + 1 ≤ w4.heap.size := by have := hg4.size; simp at this; omega
                have hc4 : C9 w4 w3.heap.size 0 t := HC3.out.moved (hg4.block _ (HC3.out.lt) (by simpa using hne))
                obtain ⟨c0, c1, c2, c3, c4, c5, c6, c7, c8⟩ := hc4
                simp only [Nat.zero_add] at c0 c1 c2 c3 c4 c5 c6 c7 c8
                have HB4 : Hid (Below w.heap.size w w4) := Lib.hid (Below.grown HS3.out.bel hg4 HS3.out.bel.size (fun j hj => by cases hj; exact Nat.le_refl _))
                unfold Ref5.tripleV triL at hlook hput
                unfold Ref5.tripleV
                clear hm4 hrow4 hlt3 hne
                obtain ⟨T1, hT1⟩ : ∃ T1, T1 = T ++ [t] := ⟨_, rfl⟩
                have HT1 := Lib.hid hT1
                have HL1 : Hid (T1.length = T.length + 1) := Lib.hid (by rw [hT1]; simp)
                clear hT1
                by_cases h100 : 100 < T.length + 1
                · have HR := Lib.hid (HR2.out ht h100)
                  have hgt : 100 < T1.length := by rw [HL1.out]; exact h100
                  have hd : decide ((100 : Int) < (T1.length : Int)) = true := decide_eq_true (by omega)
                  have hT2 : T1.length ≤ 101 := by rw [HL1.out]; omega
                  clear HR1 HR2 HR3 ht h100
                  go_wp2_with (at_builtin; go_loud (refine Kd.own_app1 triK (w0 := w4) (w.heap.size + 1) (by rfl) (.tmp 53) (.tmp 55) 31 25 zeroV 120 (by rfl) Tryz.underlying31 info_tri rfl (by decide) u T t (triL t) FF (by rfl) (by rfl) HRow4.out ⟨rfl, hft⟩ (Below.refl _ _) hbase ?hl ?_); go_loud (case hl => omega); go_loud (intro v1 w5 ho5 hb5 hg5 hv5; rw [← HT1.out] at ho5; have HB6 : Hid (Below w.heap.size w w5) := Lib.hid (Below.grown HB4.out hg5 HB4.out.size (fun j hj => by have := (Kd.own_lt HRow4.out j hj).1; omega)); have HO5 := Lib.hid ho5; have HB5 := Lib.hid hb5; obtain ⟨A1, cap1, rfl, _, _⟩ := Kd.own_slice ho5; clear ho5 hb5 hg5 hv5))
                  go_wp2
                  go_ret3
                  rw [HR.out]
                  exact Parsed.err (n + 1) 3 HB6.out
                · have HR := Lib.hid (HR3.out ht h100)
                  have hT2 : T1.length ≤ 100 := by rw [HL1.out]; omega
                  have hd : decide (100 < T1.length) = false := decide_eq_false (by omega)
                  clear HR1 HR2 HR3 ht h100
                  go_wp2_with (at_builtin; go_loud (refine Kd.own_app1 triK (w0 := w4) (w.heap.size + 1) (by rfl) (.tmp 53) (.tmp 55) 31 25 zeroV 120 (by rfl) Tryz.underlying31 info_tri rfl (by decide) u T t (triL t) FF (by rfl) (by rfl) HRow4.out ⟨rfl, hft⟩ (Below.refl _ _) hbase ?hl ?_); go_loud (case hl => omega); go_loud (intro v1 w5 ho5 hb5 hg5 hv5; rw [← HT1.out] at ho5; have HB6 : Hid (Below w.heap.size w w5) := Lib.hid (Below.grown HB4.out hg5 HB4.out.size (fun j hj => by have := (Kd.own_lt HRow4.out j hj).1; omega)); have HO5 := Lib.hid ho5; have HB5 := Lib.hid hb5; obtain ⟨A1, cap1, rfl, _, _⟩ := Kd.own_slice ho5; clear ho5 hb5 hg5 hv5))
                  go_wp2
                  have HS5 : Hid (St w w5 (.slice A1 T1.length cap1) T1) := Lib.hid (by
                    have hb := HB6.out
                    have hm : MapT.MapAt w5 w.heap.size (T ++ [t]) := HM4.out.moved (HB5.out.block _ (Nat.lt_succ_self _))
                    have hr := HO5.out
                    rw [HT1.out] at hr ⊢
                    exact new_row HS3.out hm hr HIs.out hb)
                  go_roundg q.length
                  case measure => exact HQ.out.1
                  case rel => exact ⟨q, T1, n + 1, _, rfl, Lib.hid rfl, rfl, by go_num, by omega, HQ.out.2, hT2, HS5, by rw [HT1.out]; exact HR⟩
end Go.Proofs.YtmcoloapiiakbaaGreatDoor.Parse
/-
  The law LinesBack, walked.
-/
set_option linter.unusedVariables false
set_option linter.unusedSimpArgs false
namespace Go.Proofs.YtmcoloapiiakbaaGreatDoor.LBack
open Go.RowKit Go.Lib Go.Proofs.YtmcoloapiiakbaaGreatDoor.B Go.Proofs.YtmcoloapiiakbaaGreatDoor.Rd Go.Proofs.YtmcoloapiiakbaaGreatDoor.Utf Go.Proofs.YtmcoloapiiakbaaGreatDoor.TermPure Go.Proofs.YtmcoloapiiakbaaGreatDoor.LinesPure Go.Proofs.YtmcoloapiiakbaaGreatDoor.Tx Go.Proofs.YtmcoloapiiakbaaGreatDoor.Env Go.Proofs.YtmcoloapiiakbaaGreatDoor.Tri Go.Proofs.YtmcoloapiiakbaaGreatDoor.SortP Go.Proofs.YtmcoloapiiakbaaGreatDoor.Print Go.Proofs.YtmcoloapiiakbaaGreatDoor.Cmp Go.Proofs.YtmcoloapiiakbaaGreatDoor.Long Go.Proofs.YtmcoloapiiakbaaGreatDoor.SortW Go.Proofs.YtmcoloapiiakbaaGreatDoor.ParseP Go.Proofs.YtmcoloapiiakbaaGreatDoor.Parse Go.Proofs.YtmcoloapiiakbaaGreatDoor.LSort

theorem lineN_eq (t : Triple) : lineN t = Round.lineT t ++ [10] := by
  unfold lineN Round.lineT
  simp
theorem stands_print (l : List Triple) (h : Valid l) : Stands (l.flatMap lineN) l l.length :=
  Stands.flat l fun t ht => by rw [lineN_eq]; exact Stands.shown (h t ht)
set_option maxHeartbeats 6400000 in
set_option maxRecDepth 100000 in
theorem walk0 (w : World) (he : Env w) (l : List Triple) (A : Option Addr) (c : Nat) (HL : triK.sl.M w (fun k => k < w.heap.size) l [.slice A l.length c]) :
    Calls Tryz.prog 6 #[.slice A l.length c] w fun e w' => e = .returned (.bool true) ∧ Below w.heap.size w w' := by
  have HLg := Lib.hid (long_calls l A c w HL)
  have HFw := Lib.hid (row_fits HL)
  have h47 := sl_len HL
  have HROW : Hid (∀ w', Below w.heap.size w w' → triK.sl.M w' (fun k => k < w'.heap.size) l [.slice A l.length c]) := Lib.hid (fun w' hb => triK.sl.mono (fun k _ hk => hk) (Kd.M_below HL hb))
  have HE := Lib.hid he
  clear HL he
  go_enter Tryz.func6, Tryz.ntmps6
  by_cases htt : 9000 < total l
  · rw [decide_eq_true htt] at HLg
    go_wp2_with fail
    refine HLg.out.mono ?_
    rintro e w2 ⟨rfl, hb⟩
    have HB := Lib.hid hb
    clear hb
    go_wp2
    go_ret
    exact ⟨rfl, HB.out⟩
  have htt2 : total l ≤ 9000 := by omega
  have hfl := flat_small l
  have HSm := Lib.hid (small_of htt2)
  have hl3 : l.length ≤ 3000 := by have := len_le l; omega
  rw [decide_eq_false htt] at HLg
  have HTot := Lib.hid htt2
  have HFl : Hid ((l.flatMap lineN).length ≤ 108000) := Lib.hid (by omega)
  clear htt htt2 hfl
  go_wp2_with fail
  refine HLg.out.mono ?_
  rintro e w2 ⟨rfl, hb⟩
  have HB := Lib.hid hb
  clear hb HLg
  have HMay := Lib.hid (may_calls l A c w2 (HE.out.below HB.out) (HROW.out w2 HB.out) HTot.out)
  by_cases hall : l.all isTriple = true
  case neg =>
    have hall2 : l.all isTriple = false := by simpa using hall
    rw [hall2] at HMay
    clear hall hall2
    go_wp2_with fail
    refine HMay.out.mono ?_
    rintro e w3 ⟨rfl, hb⟩
    have HB3 := Lib.hid (bel_step HB.out hb)
    clear hb
    go_wp2
    go_ret
    exact ⟨rfl, HB3.out⟩
  rw [hall] at HMay
  have HV := Lib.hid (valid_of hall)
  clear hall
  go_wp2_with fail
  refine HMay.out.mono ?_
  rintro e w3 ⟨rfl, hb⟩
  have HB3 := Lib.hid (bel_step HB.out hb)
  clear hb HMay
  by_cases h100 : 100 < l.length
  · have hd : decide (100 < l.length) = true := decide_eq_true h100
    go_wp2
    go_ret
    exact ⟨rfl, HB3.out⟩
  have hd : decide (100 < l.length) = false := decide_eq_false h100
  have HP := Lib.hid (print_calls l A c w3 (HROW.out w3 HB3.out) HSm.out (by have := HFl.out; omega))
  obtain ⟨x, hx⟩ : ∃ x, x = l.flatMap lineN := ⟨_, rfl⟩
  have hxl : x.length ≤ 108000 := by rw [hx]; exact HFl.out
  have HX := Lib.hid hx
  rw [← hx] at HP
  clear hx
  have z := mkS_size x
  go_wp2_with fail
  refine HP.out.mono ?_
  rintro e w4 ⟨rfl, hb⟩
  have HB4 := Lib.hid (bel_step HB3.out hb)
  clear hb HP
  have HPar := Lib.hid (parse_calls x (by omega) w4 (HE.out.below HB4.out))
  by_cases hbig : 20000 < x.length
  · have hd2 : decide (20000 < x.length) = true := decide_eq_true hbig
    rw [show parse x = ([], 0, 4) by rw [parse, if_pos hbig]] at HPar
    go_wp2_with fail
    refine HPar.out.mono ?_
    rintro e w5 ⟨A5, c5, rfl, hM5, hb⟩
    have HB5 := Lib.hid (bel_step HB4.out hb)
    have HK := Lib.hid (Known.known_calls w5 (HE.out.below HB5.out))
    clear hb HPar hM5
    dsimp only
    go_wp2_with fail
    refine HK.out.mono ?_
    rintro e w6 ⟨rfl, hb⟩
    have HB6 := Lib.hid (bel_step HB5.out hb)
    clear hb HK
    go_wp2
    go_ret
    exact ⟨rfl, HB6.out⟩
  · have hd2 : decide (20000 < x.length) = false := decide_eq_false hbig
    rw [show parse x = (sortT l, l.length, 0) by rw [HX.out]; exact (stands_print l HV.out).parse HV.out (by omega) (by omega) (by rw [← HX.out]; omega)] at HPar
    go_wp2_with fail
    refine HPar.out.mono ?_
    rintro e w5 ⟨A5, c5, rfl, hM5, hb⟩
    have HB5 := Lib.hid (bel_step HB4.out hb)
    have HM5 := Lib.hid hM5
    have HRef := Lib.hid (refsort_calls l A c w5 (HROW.out w5 HB5.out) HSm.out (by omega))
    clear hb HPar hM5
    dsimp only at *
    obtain ⟨s, hs⟩ : ∃ s, s = sortT l := ⟨_, rfl⟩
    rw [← hs] at HM5 HRef
    rw [← hs]
    clear hs
    go_wp2_with fail
    refine HRef.out.mono ?_
    rintro e w6 ⟨A6, c6, rfl, hM6, hb⟩
    have HB6 := Lib.hid (bel_step HB5.out hb)
    have HSame := Lib.hid (same_calls s s A5 A6 c5 c6 w6 (Kd.M_bound (Kd.M_below HM5.out hb)) (Kd.M_bound hM6))
    rw [decide_eq_true rfl] at HSame
    clear hb HRef hM6
    go_wp2_with fail
    refine HSame.out.mono ?_
    rintro e w7 ⟨rfl, hb⟩
    have HB7 := Lib.hid (bel_step HB6.out hb)
    have HK := Lib.hid (Known.known_calls w7 (HE.out.below HB7.out))
    clear hb HSame
    go_wp2_with fail
    refine HK.out.mono ?_
    rintro e w8 ⟨rfl, hb⟩
    have HB8 := Lib.hid (bel_step HB7.out hb)
    clear hb HK
    go_wp2
    go_ret
    exact ⟨rfl, HB8.out⟩
theorem walk (w : World) (he : Env w) (l : List Triple) (v : Value) (m : triK.sl.M w (fun _ => True) l [v]) :
    Calls Tryz.prog 6 #[v] w fun e w' => e = .returned (.bool true) ∧ Below w.heap.size w w' := by
  obtain ⟨A, c, hv, h⟩ := id m
  obtain rfl : v = .slice A l.length c := by simpa using hv
  exact walk0 w he l A c (triK.sl.mono (fun k _ hk => hk) m)
end Go.Proofs.YtmcoloapiiakbaaGreatDoor.LBack
/-
  append of a row at an operation that has a guard.
-/
set_option linter.unusedVariables false
set_option linter.unusedSimpArgs false
namespace Go.Proofs.YtmcoloapiiakbaaGreatDoor.B.Kd
open Go.RowKit Go.Proofs.YtmcoloapiiakbaaGreatDoor.B
section
variable {α : Type} {P : Program} {W w0 : World} {ops : Array Oper} {rest : List Oper} {o : Oper} {a : Act} {Q : Exit → Act → World → Prop}
theorem own_appG (d : Kd α) (base : Nat) (hgd : Region.wanted o (yielded ops a.tmps) = true) (s x : Operand) (t e : TypeId) (z : Value) (bytes : Nat)
    (ho : o.op = .call { callee := .builtin .append, args := #[s, x], argTypes := #[t, t] })
    (ht : P.underlying t = some (.slice e)) (hinfo : (P.info? e).map (fun i => (i.zero, i.size, i.bytes)) = some (some z, d.sz, bytes)) (hz : z.cells.size = d.sz) (hb0 : 0 < bytes)
    (v : Value) (xs ys : List α) (A : Option Addr) (c : Nat) (ok : Nat → Prop) (hs : a.eval s = v) (hx : a.eval x = .slice A ys.length c)
    (HO : d.own e W base ok v xs) (HR : d.sl.M W (fun _ => True) ys [.slice A ys.length c]) (hany : ∀ w ok ok' x cs, d.M w ok x cs → d.M w ok' x cs)
    (HB : Below base w0 W) (hbase : base ≤ W.heap.size) (hl : (xs.length + ys.length) * bytes ≤ 140737488355328)
    (h : ∀ v1 w1, d.own e w1 base ok v1 (xs ++ ys) → Below base w0 w1 → W.grownBy w1 v.ownBlock → (v1.ownBlock = v.ownBlock ∨ v1.ownBlock = some W.heap.size) → wpList P ops Q rest (a.put o.dst v1) w1) :
    wpList P ops Q (o :: rest) a W := by
  have key : (∀ i y, ys[i]? = some y → ∃ ad cs, A = some ad ∧ d.M W (fun k => ok k ∧ some k ≠ v.ownBlock) y cs ∧ ∀ j u, cs[j]? = some u → W.cell? (ad.add (i * d.sz + j)) = some u) ∧ (A = none → c = 0 ∧ ys = []) := by
    obtain ⟨A', c', he, h1, _, h3, h4⟩ := HR
    obtain ⟨rfl, rfl⟩ : A = A' ∧ c = c' := by simpa using he
    exact ⟨fun i y hy => by obtain ⟨ad, cs, a1, _, a3, a4⟩ := h4 i y hy; exact ⟨ad, cs, a1, hany _ _ _ _ _ a3, a4⟩, fun hA => ⟨h3 hA, List.eq_nil_of_length_eq_zero (by have := h3 hA; omega)⟩⟩
  obtain ⟨v1, w1, hr, h1, h2, h3, h4⟩ := own_run (P := P) (w0 := w0) d base t o.type e z bytes ht hinfo hz v xs ys A c ok HO key.1 key.2 HB hbase hl hb0
  refine wpList_step fun K hK => ?_
  rw [if_pos hgd]
  unfold Oper.wp execOp
  simp only [ho, resolve, invoke, builtin, Sem.run_bind, Sem.run_pure, Result.andThen_ok, List.map_toArray, List.map_cons, List.map_nil, hs, hx, hr]
  exact hK _ _ (h v1 w1 h1 h2 h3 h4)
end
end Go.Proofs.YtmcoloapiiakbaaGreatDoor.B.Kd
