/-
  Texts of the claim, one behind the other: LSub, LWrong, SpellP, Hex, Spelt, LSpell, Card.
-/
import Derived.Test.YtmcoloapiiakbaaGreatDoorM7
import Derived.Outline
import Derived.Test.YtmcoloapiiakbaaGreatDoorRows
import Derived.Deep.DeepHandedRow
import Derived.Deep.DeepWitnessRowRef
import Derived.Lib.LaidCaseMet
import Derived.PinnedBridge
/-
  The law LinesSub, walked.
-/
set_option linter.unusedVariables false
set_option linter.unusedSimpArgs false
namespace Go.Proofs.YtmcoloapiiakbaaGreatDoor.LSub
open Go.RowKit Go.Lib Go.Proofs.YtmcoloapiiakbaaGreatDoor.B Go.Proofs.YtmcoloapiiakbaaGreatDoor.Rd Go.Proofs.YtmcoloapiiakbaaGreatDoor.Utf Go.Proofs.YtmcoloapiiakbaaGreatDoor.TermPure Go.Proofs.YtmcoloapiiakbaaGreatDoor.LinesPure Go.Proofs.YtmcoloapiiakbaaGreatDoor.Tx Go.Proofs.YtmcoloapiiakbaaGreatDoor.Env Go.Proofs.YtmcoloapiiakbaaGreatDoor.Tri Go.Proofs.YtmcoloapiiakbaaGreatDoor.SortP Go.Proofs.YtmcoloapiiakbaaGreatDoor.Print Go.Proofs.YtmcoloapiiakbaaGreatDoor.Cmp Go.Proofs.YtmcoloapiiakbaaGreatDoor.Long Go.Proofs.YtmcoloapiiakbaaGreatDoor.SortW Go.Proofs.YtmcoloapiiakbaaGreatDoor.ParseP Go.Proofs.YtmcoloapiiakbaaGreatDoor.Parse Go.Proofs.YtmcoloapiiakbaaGreatDoor.LSort Go.Proofs.YtmcoloapiiakbaaGreatDoor.LBack

theorem stands_two {a b : List Triple} (ha : Valid a) (hb : Valid b) : Stands (a.flatMap lineN ++ b.flatMap lineN) (a ++ b) (a.length + b.length) := (stands_print a ha).append (stands_print b hb)
theorem valid_app {a b : List Triple} (ha : Valid a) (hb : Valid b) : Valid (a ++ b) := fun x hx => (List.mem_append.1 hx).elim (ha x) (hb x)
theorem tri_any : ∀ (w : World) (ok ok' : Nat → Prop) (x : Triple) cs, triK.M w ok x cs → triK.M w ok' x cs := fun _ _ _ _ _ h => h
set_option maxHeartbeats 6400000 in
set_option maxRecDepth 100000 in
theorem walk0 (w : World) (he : Env w) (a b : List Triple) (A A' : Option Addr) (c c' : Nat) (HA : triK.sl.M w (fun k => k < w.heap.size) a [.slice A a.length c]) (HB : triK.sl.M w (fun k => k < w.heap.size) b [.slice A' b.length c']) :
    Calls Tryz.prog 9 #[.slice A a.length c, .slice A' b.length c'] w fun e w' => e = .returned (.bool true) ∧ Below w.heap.size w w' := by
  have ha47 := sl_len HA
  have hb47 := sl_len HB
  have HRA : Hid (∀ w', Below w.heap.size w w' → triK.sl.M w' (fun k => k < w'.heap.size) a [.slice A a.length c]) := Lib.hid (fun w' hb => triK.sl.mono (fun k _ hk => hk) (Kd.M_below HA hb))
  have HRB : Hid (∀ w', Below w.heap.size w w' → triK.sl.M w' (fun k => k < w'.heap.size) b [.slice A' b.length c']) := Lib.hid (fun w' h => triK.sl.mono (fun k _ hk => hk) (Kd.M_below HB h))
  have HFA := Lib.hid (row_fits HA)
  have HFB := Lib.hid (row_fits HB)
  have HLa := Lib.hid (long_calls a A c w HA)
  have HE := Lib.hid he
  clear HA HB he
  go_enter Tryz.func9, Tryz.ntmps9
  by_cases h1 : 30 < a.length
  · go_wp2
    go_ret
    exact ⟨rfl, Below.refl _ _⟩
  by_cases h2 : 30 < b.length
  · go_wp2
    go_ret
    exact ⟨rfl, Below.refl _ _⟩
  by_cases l1 : 9000 < total a
  · rw [decide_eq_true l1] at HLa
    clear l1
    go_wp2_with fail
    refine HLa.out.mono ?_
    rintro e w2 ⟨rfl, hb⟩
    have HB := Lib.hid hb
    clear hb
    go_wp2
    go_ret
    exact ⟨rfl, HB.out⟩
  rw [decide_eq_false l1] at HLa
  have HSa := Lib.hid (small_of (show total a ≤ 9000 by omega))
  have HTa : Hid (total a ≤ 9000) := Lib.hid (by omega)
  have HFla : Hid ((a.flatMap lineN).length ≤ 108000) := Lib.hid (by have := flat_small a; omega)
  clear l1
  go_wp2_with fail
  refine HLa.out.mono ?_
  rintro e w2 ⟨rfl, hb⟩
  have HB2 := Lib.hid hb
  have HLb := Lib.hid (long_calls b A' c' w2 (HRB.out w2 HB2.out))
  clear hb HLa
  by_cases l2 : 9000 < total b
  · rw [decide_eq_true l2] at HLb
    clear l2
    go_wp2_with fail
    refine HLb.out.mono ?_
    rintro e w3 ⟨rfl, hb⟩
    have HB3 := Lib.hid (bel_step HB2.out hb)
    clear hb
    go_wp2
    go_ret
    exact ⟨rfl, HB3.out⟩
  rw [decide_eq_false l2] at HLb
  have HSb := Lib.hid (small_of (show total b ≤ 9000 by omega))
  have HTb : Hid (total b ≤ 9000) := Lib.hid (by omega)
  have HFlb : Hid ((b.flatMap lineN).length ≤ 108000) := Lib.hid (by have := flat_small b; omega)
  clear l2
  go_wp2_with fail
  refine HLb.out.mono ?_
  rintro e w3 ⟨rfl, hb⟩
  have HB3 := Lib.hid (bel_step HB2.out hb)
  have HMa := Lib.hid (may_calls a A c w3 (HE.out.below HB3.out) (HRA.out w3 HB3.out) HTa.out)
  clear hb HLb
  by_cases m1 : a.all isTriple = true
  case neg =>
    rw [show a.all isTriple = false by simpa using m1] at HMa
    clear m1
    go_wp2_with fail
    refine HMa.out.mono ?_
    rintro e w4 ⟨rfl, hb⟩
    have HB4 := Lib.hid (bel_step HB3.out hb)
    clear hb
    go_wp2
    go_ret
    exact ⟨rfl, HB4.out⟩
  rw [m1] at HMa
  have HVa := Lib.hid (valid_of m1)
  clear m1
  go_wp2_with fail
  refine HMa.out.mono ?_
  rintro e w4 ⟨rfl, hb⟩
  have HB4 := Lib.hid (bel_step HB3.out hb)
  have HMb := Lib.hid (may_calls b A' c' w4 (HE.out.below HB4.out) (HRB.out w4 HB4.out) HTb.out)
  clear hb HMa
  by_cases m2 : b.all isTriple = true
  case neg =>
    rw [show b.all isTriple = false by simpa using m2] at HMb
    clear m2
    go_wp2_with fail
    refine HMb.out.mono ?_
    rintro e w5 ⟨rfl, hb⟩
    have HB5 := Lib.hid (bel_step HB4.out hb)
    clear hb
    go_wp2
    go_ret
    exact ⟨rfl, HB5.out⟩
  rw [m2] at HMb
  have HVb := Lib.hid (valid_of m2)
  clear m2
  go_wp2_with fail
  refine HMb.out.mono ?_
  rintro e w5 ⟨rfl, hb⟩
  have HB5 := Lib.hid (bel_step HB4.out hb)
  have HPa := Lib.hid (refprint_calls a A c w5 (HRA.out w5 HB5.out) HSa.out (by have := HFla.out; omega))
  clear hb HMb
  obtain ⟨x, hx⟩ : ∃ x, x = a.flatMap lineN := ⟨_, rfl⟩
  obtain ⟨y, hy⟩ : ∃ y, y = b.flatMap lineN := ⟨_, rfl⟩
  have hxl : x.length ≤ 108000 := by rw [hx]; exact HFla.out
  have hyl : y.length ≤ 108000 := by rw [hy]; exact HFlb.out
  have HX := Lib.hid hx
  have HY := Lib.hid hy
  rw [← hx] at HPa
  clear hx hy
  go_wp2_with fail
  refine HPa.out.mono ?_
  rintro e w6 ⟨rfl, hb⟩
  have HB6 := Lib.hid (bel_step HB5.out hb)
  have HPb := Lib.hid (refprint_calls b A' c' w6 (HRB.out w6 HB6.out) HSb.out (by have := HFlb.out; omega))
  rw [← HY.out] at HPb
  clear hb HPa
  have zx := mkS_size x
  have zy := mkS_size y
  go_wp2_with fail
  refine HPb.out.mono ?_
  rintro e w7 ⟨rfl, hb⟩
  have HB7 := Lib.hid (bel_step HB6.out hb)
  clear hb HPb
  by_cases hbig : 20000 < x.length + y.length
  · have hbig' : (20000 : Int) < (x.length : Int) + (y.length : Int) := by omega
    go_wp2
    go_ret
    exact ⟨rfl, HB7.out⟩
  have hbig' : ¬ (20000 : Int) < (x.length : Int) + (y.length : Int) := by omega
  have hap := mkS_append x y
  have HPar := Lib.hid (parse_calls (x ++ y) (by simp; omega) w7 (HE.out.below HB7.out))
  rw [show parse (x ++ y) = (sortT (a ++ b), a.length + b.length, 0) by rw [HX.out, HY.out]; exact (stands_two HVa.out HVb.out).parse (valid_app HVa.out HVb.out) (by omega) (by simp; omega) (by rw [← HX.out, ← HY.out]; simp; omega)] at HPar
  generalize mkS (x ++ y) = sxy at *
  go_wp2_with fail
  refine HPar.out.mono ?_
  rintro e w8 ⟨A8, c8, rfl, hM8, hb⟩
  have HB8 := Lib.hid (bel_step HB7.out hb)
  have HM8 := Lib.hid hM8
  clear hb HPar hM8 hap zx zy
  dsimp only at *
  obtain ⟨l, hl⟩ : ∃ l, l = a ++ b := ⟨_, rfl⟩
  have HL := Lib.hid hl
  have HVl : Hid (Valid l) := Lib.hid (by rw [hl]; exact valid_app HVa.out HVb.out)
  have HSl : Hid (∀ t ∈ l, SmallT t) := Lib.hid (by rw [hl]; intro t ht; exact (List.mem_append.1 ht).elim (HSa.out t) (HSb.out t))
  have hll : l.length ≤ 60 := by rw [hl]; simp; omega
  rw [← hl] at HM8
  rw [← hl]
  clear hl
  obtain ⟨s, hs⟩ : ∃ s, s = sortT l := ⟨_, rfl⟩
  have HSs := Lib.hid hs
  rw [← hs] at HM8
  rw [← hs]
  clear hs
  have hsum : ((a.length + b.length : Nat) : Int) = (a.length : Int) + (b.length : Int) := by omega
  rw [hsum]
  have hz : w.heap.size ≤ w8.heap.size := HB8.out.size
  have HO0 := Lib.hid (own0_1 w8)
  have hbb := HB8.out
  have HBA : Hid (Below w8.heap.size w8 (w8.alloc (.cells #[] 25))) := Lib.hid (bel_alloc (Below.refl _ _) _)
  go_wp2_with (at_builtin; first
    | (refine Kd.own_appG triK (w0 := w8) w8.heap.size (by rfl) (.tmp 67) (.tmp 68) 31 25 zeroV 120 (by rfl) Tryz.underlying31 info_tri rfl (by decide) (.slice (some ⟨w8.heap.size, 0, none⟩) 0 0) [] a A c TT (by rfl) (by rfl) HO0.out (triK.sl.mono (fun _ _ _ => trivial) (HRA.out _ (bel_step hbb HBA.out))) tri_any HBA.out HBA.out.size ?hl ?_; go_loud (case hl => simp; omega); go_loud (intro v1 w1 ho1 hb1 hg1 hv1; rw [List.nil_append] at ho1; have HO1 := Lib.hid ho1; have HB1 := Lib.hid hb1; clear ho1 hb1 hg1 hv1))
    | (refine Kd.own_appG triK (w0 := w8) w8.heap.size (by rfl) (.tmp 69) (.tmp 70) 31 25 zeroV 120 (by rfl) Tryz.underlying31 info_tri rfl (by decide) v1 a b A' c' TT (by rfl) (by rfl) HO1.out (triK.sl.mono (fun _ _ _ => trivial) (HRB.out _ (bel_step hbb HB1.out))) tri_any HB1.out HB1.out.size ?hl ?_; go_loud (case hl => omega); go_loud (intro v2 w9 ho2 hb2 hg2 hv2; rw [← HL.out] at ho2; have HO2 := Lib.hid ho2; have HB9 := Lib.hid (bel_step hbb hb2); have HB8' := Lib.hid hb2; obtain ⟨A2, c2, rfl, _, _⟩ := Kd.own_slice ho2; clear ho2 hb2 hg2 hv2))
    | fail)
  have HRef := Lib.hid (refsort_calls l A2 c2 w9 (Kd.M_bound (Kd.own_sl (ok' := TT) HO2.out (fun _ _ => trivial) (fun _ _ => trivial))) HSl.out (by omega))
  rw [← HSs.out] at HRef
  refine HRef.out.mono ?_
  rintro e w10 ⟨A10, c10, rfl, hM10, hb⟩
  have HB10 := Lib.hid (bel_step HB9.out hb)
  have HSame := Lib.hid (same_calls s s A8 A10 c8 c10 w10 (Kd.M_bound (Kd.M_below HM8.out (bel_step HB8'.out hb))) (Kd.M_bound hM10))
  rw [decide_eq_true rfl] at HSame
  clear hb HRef hM10
  go_wp2_with fail
  refine HSame.out.mono ?_
  rintro e w11 ⟨rfl, hb⟩
  have HB11 := Lib.hid (bel_step HB10.out hb)
  have HK := Lib.hid (Known.known_calls w11 (HE.out.below HB11.out))
  clear hb HSame
  go_wp2_with fail
  refine HK.out.mono ?_
  rintro e w12 ⟨rfl, hb⟩
  have HB12 := Lib.hid (bel_step HB11.out hb)
  clear hb HK
  go_wp2
  go_ret
  exact ⟨rfl, HB12.out⟩
theorem walk (w : World) (he : Env w) (a : List Triple) (v : Value) (ma : triK.sl.M w (fun _ => True) a [v]) (b : List Triple) (v' : Value) (mb : triK.sl.M w (fun _ => True) b [v']) :
    Calls Tryz.prog 9 #[v, v'] w fun e w' => e = .returned (.bool true) ∧ Below w.heap.size w w' := by
  obtain ⟨A, c, hv, h⟩ := id ma
  obtain rfl : v = .slice A a.length c := by simpa using hv
  obtain ⟨A', c', hv', h'⟩ := id mb
  obtain rfl : v' = .slice A' b.length c' := by simpa using hv'
  exact walk0 w he a b A A' c c' (triK.sl.mono (fun k _ hk => hk) ma) (triK.sl.mono (fun k _ hk => hk) mb)
end Go.Proofs.YtmcoloapiiakbaaGreatDoor.LSub
/-
  The law LinesWrong, walked.
-/
set_option linter.unusedVariables false
set_option linter.unusedSimpArgs false
namespace Go.Proofs.YtmcoloapiiakbaaGreatDoor.LWrong
open Go.RowKit Go.Lib Go.Proofs.YtmcoloapiiakbaaGreatDoor.B Go.Proofs.YtmcoloapiiakbaaGreatDoor.Rd Go.Proofs.YtmcoloapiiakbaaGreatDoor.Utf Go.Proofs.YtmcoloapiiakbaaGreatDoor.TermPure Go.Proofs.YtmcoloapiiakbaaGreatDoor.LinesPure Go.Proofs.YtmcoloapiiakbaaGreatDoor.Tx Go.Proofs.YtmcoloapiiakbaaGreatDoor.Env Go.Proofs.YtmcoloapiiakbaaGreatDoor.Tri Go.Proofs.YtmcoloapiiakbaaGreatDoor.SortP Go.Proofs.YtmcoloapiiakbaaGreatDoor.Print Go.Proofs.YtmcoloapiiakbaaGreatDoor.Cmp Go.Proofs.YtmcoloapiiakbaaGreatDoor.Long Go.Proofs.YtmcoloapiiakbaaGreatDoor.SortW Go.Proofs.YtmcoloapiiakbaaGreatDoor.ParseP Go.Proofs.YtmcoloapiiakbaaGreatDoor.Parse Go.Proofs.YtmcoloapiiakbaaGreatDoor.LSort Go.Proofs.YtmcoloapiiakbaaGreatDoor.LBack

def badL : List UInt8 := [60, 97, 62, 32, 60, 98, 62, 32, 46]
theorem bad_none : lineOf false badL = none := by decide +kernel
theorem total_drop (l : List Triple) (k : Nat) : total (l.drop k) ≤ total l := by
  have := total_append (l.take k) (l.drop k)
  rw [List.take_append_drop] at this
  omega
theorem wrong_parse (l : List Triple) (k : Nat) (hV : Valid l) (hl : l.length ≤ 20) (hk : k ≤ l.length) (r : List UInt8) (hx : ((l.take k).flatMap lineN ++ (badL ++ 10 :: r)).length ≤ 20000) :
    parse ((l.take k).flatMap lineN ++ (badL ++ 10 :: r)) = ([], k + 1, 2) := by
  have hkl : (l.take k).length = k := by rw [List.length_take]; omega
  have := (stands_print (l.take k) (fun x hx => hV x (List.mem_of_mem_take hx))).wrong (y := badL) (r := r) (by omega) (by omega) (by unfold badL; decide) (NoNl.line (x := badL) (by unfold NoNl badL; decide)).2 bad_none hx
  rw [hkl] at this
  exact this
set_option maxHeartbeats 6400000 in
set_option maxRecDepth 100000 in
theorem walk0 (w : World) (he : Env w) (l : List Triple) (A : Option Addr) (c : Nat) (HL : triK.sl.M w (fun k => k < w.heap.size) l [.slice A l.length c]) (n : Int) (hn : -9223372036854775808 ≤ n ∧ n ≤ 9223372036854775807) (m : List UInt8) (hm : m.length ≤ 9223372036854775807) :
    Calls Tryz.prog 8 #[.slice A l.length c, .int .i64 n, .string (mkS m)] w fun e w' => e = .returned (.bool true) ∧ Below w.heap.size w w' := by
  have h47 := sl_len HL
  have zm := mkS_size m
  have HROW : Hid (∀ w', Below w.heap.size w w' → triK.sl.M w' (fun k => k < w'.heap.size) l [.slice A l.length c]) := Lib.hid (fun w' hb => triK.sl.mono (fun k _ hk => hk) (Kd.M_below HL hb))
  have HLg := Lib.hid (long_calls l A c w HL)
  have HE := Lib.hid he
  obtain ⟨A', c', hee, hlc, ⟨_, hcm⟩, hA, hrow⟩ := HL
  obtain ⟨rfl, rfl⟩ : A = A' ∧ c = c' := by simpa using hee
  clear hee he
  have HRow := Lib.hid hrow
  clear hrow
  go_enter Tryz.func8, Tryz.ntmps8
  by_cases h1 : 20 < l.length
  · go_wp2
    go_ret
    exact ⟨rfl, Below.refl _ _⟩
  by_cases l1 : 9000 < total l
  · rw [decide_eq_true l1] at HLg
    clear l1
    go_wp2_with fail
    refine HLg.out.mono ?_
    rintro e w2 ⟨rfl, hb⟩
    have HB := Lib.hid hb
    clear hb
    go_wp2
    go_ret
    exact ⟨rfl, HB.out⟩
  rw [decide_eq_false l1] at HLg
  have HTot : Hid (total l ≤ 9000) := Lib.hid (by omega)
  clear l1
  go_wp2_with fail
  refine HLg.out.mono ?_
  rintro e w2 ⟨rfl, hb⟩
  have HB2 := Lib.hid hb
  have HMay := Lib.hid (may_calls l A c w2 (HE.out.below HB2.out) (HROW.out w2 HB2.out) HTot.out)
  clear hb HLg
  by_cases m1 : l.all isTriple = true
  case neg =>
    rw [show l.all isTriple = false by simpa using m1] at HMay
    clear m1
    go_wp2_with fail
    refine HMay.out.mono ?_
    rintro e w3 ⟨rfl, hb⟩
    have HB3 := Lib.hid (bel_step HB2.out hb)
    clear hb
    go_wp2
    go_ret
    exact ⟨rfl, HB3.out⟩
  rw [m1] at HMay
  have HV := Lib.hid (valid_of m1)
  clear m1
  by_cases c4 : n < 0
  · go_wp2_with fail
    refine HMay.out.mono ?_
    rintro e w3 ⟨rfl, hb⟩
    have HB3 := Lib.hid (bel_step HB2.out hb)
    clear hb
    go_wp2
    go_ret
    exact ⟨rfl, HB3.out⟩
  obtain ⟨k, rfl⟩ : ∃ k : Nat, n = (k : Int) := ⟨n.toNat, by omega⟩
  clear hn
  by_cases c5 : l.length < k
  · have c5' : (l.length : Int) < (k : Int) := by omega
    go_wp2_with fail
    refine HMay.out.mono ?_
    rintro e w3 ⟨rfl, hb⟩
    have HB3 := Lib.hid (bel_step HB2.out hb)
    clear hb
    go_wp2
    go_ret
    exact ⟨rfl, HB3.out⟩
  have c5' : ¬ (l.length : Int) < (k : Int) := by omega
  have hk : k ≤ l.length := by omega
  by_cases c6 : 200 < m.length
  · go_wp2_with fail
    refine HMay.out.mono ?_
    rintro e w3 ⟨rfl, hb⟩
    have HB3 := Lib.hid (bel_step HB2.out hb)
    clear hb
    go_wp2
    go_ret
    exact ⟨rfl, HB3.out⟩
  go_wp2_with fail
  refine HMay.out.mono ?_
  rintro e w3 ⟨rfl, hb⟩
  have HB3 := Lib.hid (bel_step HB2.out hb)
  clear hb HMay
  go_upto_region 3 with fail
  obtain ⟨A1, -, -, htake, hrow1⟩ := Kd.cut_run (P := Tryz.prog) triK 31 25 Tryz.underlying31 cellsT zeroV 120 info_tri A l.length c 0 k (Nat.zero_le _) hk hlc ⟨h47, hcm⟩ hA
  obtain ⟨A2, -, hdrop, -, hrow2⟩ := Kd.cut_run (P := Tryz.prog) triK 31 25 Tryz.underlying31 cellsT zeroV 120 info_tri A l.length c k l.length hk (Nat.le_refl _) hlc ⟨h47, hcm⟩ hA
  have HRowW : Hid (∀ w', Below w.heap.size w w' → triK.row w' (fun k => k < w'.heap.size) A l) := Lib.hid (fun w' hb => Kd.row_mono (fun k _ hk => hk) (Kd.row_below HRow.out hb))
  have HQ1 := Lib.hid (fun w' hb => hrow1 w' _ l rfl (HRowW.out w' hb))
  have HQ2 := Lib.hid (fun w' hb => hrow2 w' _ l rfl (HRowW.out w' hb))
  simp only [List.drop_zero] at HQ1
  simp only [List.take_length] at HQ2
  obtain ⟨pre, hpre⟩ : ∃ pre, pre = l.take k := ⟨_, rfl⟩
  obtain ⟨suf, hsuf⟩ : ∃ suf, suf = l.drop k := ⟨_, rfl⟩
  have hpl : pre.length = k := by rw [hpre, List.length_take]; omega
  have hsl : suf.length = l.length - k := by rw [hsuf, List.length_drop]
  have hs1 : ∀ (kh : IntKind) (w : World), (Instr.slice 31 (.slice A l.length c) none (some (.int kh (k : Int))) none).run Tryz.prog w = .ok (.slice A1 pre.length c) w := fun kh w => by rw [hpl]; exact htake kh w rfl
  obtain ⟨c2, hc2⟩ : ∃ c2, c2 = c - k := ⟨_, rfl⟩
  have hs2 : ∀ (kl : IntKind) (w : World), (Instr.slice 31 (.slice A l.length c) (some (.int kl (k : Int))) none none).run Tryz.prog w = .ok (.slice A2 suf.length c2) w := fun kl w => by rw [hsl, hc2]; exact hdrop kl w rfl
  rw [Nat.sub_zero, Nat.sub_zero, ← hpre, ← hpl] at HQ1
  rw [← hsuf, ← hsl, ← hc2] at HQ2
  have HSp : Hid (∀ t ∈ pre, SmallT t) := Lib.hid (fun t ht => small_of HTot.out t (by rw [hpre] at ht; exact List.mem_of_mem_take ht))
  have HSs : Hid (∀ t ∈ suf, SmallT t) := Lib.hid (fun t ht => small_of HTot.out t (by rw [hsuf] at ht; exact List.mem_of_mem_drop ht))
  have hf1 : (pre.flatMap lineN).length ≤ 108000 := by have h1 := flat_small pre; have h2 := total_le l k; rw [← hpre] at h2; have := HTot.out; omega
  have hf2 : (suf.flatMap lineN).length ≤ 108000 := by have h1 := flat_small suf; have h2 := total_drop l k; rw [← hsuf] at h2; have := HTot.out; omega
  have HP1 := Lib.hid (fun p : QT.Bel w3 => refprint_calls pre A1 c p.w (HQ1.out _ (bel_step HB3.out p.bel)) HSp.out (by omega))
  have HP2 := Lib.hid (fun p : QT.Bel w3 => refprint_calls suf A2 c2 p.w (HQ2.out _ (bel_step HB3.out p.bel)) HSs.out (by omega))
  have HW : Hid (∀ r, ((pre.flatMap lineN) ++ (badL ++ 10 :: r)).length ≤ 20000 → parse ((pre.flatMap lineN) ++ (badL ++ 10 :: r)) = ([], k + 1, 2)) := Lib.hid (fun r hr => by rw [hpre] at hr ⊢; exact wrong_parse l k HV.out (by omega) hk r hr)
  clear htake hdrop hrow1 hrow2 hpre hsuf hc2 HQ1 HQ2 HSp HSs hsl HRowW
  clear hpl
  obtain ⟨x1, hx1⟩ : ∃ x1, x1 = pre.flatMap lineN := ⟨_, rfl⟩
  obtain ⟨x2, hx2⟩ : ∃ x2, x2 = suf.flatMap lineN := ⟨_, rfl⟩
  rw [← hx1] at HP1 HW hf1
  rw [← hx2] at HP2 hf2
  clear hx1 hx2
  obtain ⟨s1, hs1e⟩ : ∃ s1, mkS x1 ++ (⟨#[60, 97, 62, 32, 60, 98, 62, 32, 46, 10]⟩ : ByteArray) = s1 := ⟨_, rfl⟩
  obtain ⟨s2, hs2e⟩ : ∃ s2, s1 ++ mkS x2 = s2 := ⟨_, rfl⟩
  obtain ⟨y, hy⟩ : ∃ y, y = x1 ++ (badL ++ 10 :: (x2 ++ m)) := ⟨_, rfl⟩
  have hs3e : s2 ++ mkS m = mkS y := by
    rw [← hs2e, ← hs1e, hy]
    rw [show (⟨#[60, 97, 62, 32, 60, 98, 62, 32, 46, 10]⟩ : ByteArray) = mkS (badL ++ [10]) from rfl, mkS_append, mkS_append, mkS_append]
    congr 1
    simp
  have zx1 := mkS_size x1
  have zx2 := mkS_size x2
  have zs1 : s1.size = x1.length + 10 := by rw [← hs1e, ByteArray.size_append, mkS_size]; rfl
  have zs2 : s2.size = x1.length + 10 + x2.length := by rw [← hs2e, ByteArray.size_append, mkS_size, zs1]
  have hyl : y.length = x1.length + 10 + x2.length + m.length := by rw [hy]; unfold badL; simp; omega
  have zy := mkS_size y
  have HPar : Hid (y.length ≤ 20000 → parse y = ([], k + 1, 2)) := Lib.hid (fun h => by rw [hy] at h ⊢; exact HW.out _ h)
  clear hy HW
  refine QT.region_all (by kernel_rfl) (by kernel_rfl) ?_
  iterate 3 (go_big_quiet_step (fail))
  go_big_quiet_step (exact QT.Bel.call _ (HP1.out _))
  iterate 4 (go_big_quiet_step (fail))
  go_big_quiet_step (exact QT.Bel.call _ (HP2.out _))
  iterate 4 (go_big_quiet_step (fail))
  refine wpQuiet_nil ?_
  intro w4 hw'
  obtain ⟨⟨_, hb⟩, rfl⟩ := hw'
  have HB4 := Lib.hid (bel_step HB3.out hb)
  clear hb hs1 hs2 hs1e hs2e hs3e zx1 zx2 zs1 zs2 HP1 HP2
  by_cases hbig : 20000 < y.length
  · go_wp2
    go_ret
    exact ⟨rfl, HB4.out⟩
  have HPc := Lib.hid (parse_calls y (by omega) w4 (HE.out.below HB4.out))
  rw [HPar.out (by omega)] at HPc
  clear hyl
  go_wp2_with fail
  refine HPc.out.mono ?_
  rintro e w5 ⟨A5, c5', rfl, hM5, hb⟩
  have HB5 := Lib.hid (bel_step HB4.out hb)
  have HK := Lib.hid (Known.known_calls w5 (HE.out.below HB5.out))
  have hsum : ((k + 1 : Nat) : Int) = (k : Int) + 1 := by omega
  clear hb HPc hM5
  dsimp only
  rw [hsum]
  clear hsum
  go_wp2_with fail
  refine HK.out.mono ?_
  rintro e w6 ⟨rfl, hb⟩
  have HB6 := Lib.hid (bel_step HB5.out hb)
  clear hb HK
  go_wp2
  go_ret
  exact ⟨rfl, HB6.out⟩
theorem walk (w : World) (he : Env w) (l : List Triple) (v : Value) (ml : triK.sl.M w (fun _ => True) l [v]) (n : Int) (hn : -9223372036854775808 ≤ n ∧ n ≤ 9223372036854775807) (s : ByteArray) (hs : s.size ≤ maxLen) :
    Calls Tryz.prog 8 #[v, .int .i64 n, .string s] w fun e w' => e = .returned (.bool true) ∧ Below w.heap.size w w' := by
  obtain ⟨A, c, hv, h⟩ := id ml
  obtain rfl : v = .slice A l.length c := by simpa using hv
  rw [eq_mkS s]
  exact walk0 w he l A c (triK.sl.mono (fun k _ hk => hk) ml) n hn s.data.toList (by unfold maxLen at hs; exact hs)
end Go.Proofs.YtmcoloapiiakbaaGreatDoor.LWrong
/-
  A term, all its text's runes escaped, plain: it is read as it was.
-/
set_option linter.unusedVariables false
set_option linter.unusedSimpArgs false
namespace Go.Proofs.YtmcoloapiiakbaaGreatDoor.SpellP
open Go.Lib Go.Proofs.YtmcoloapiiakbaaGreatDoor.B Go.Proofs.YtmcoloapiiakbaaGreatDoor.Utf Go.Proofs.YtmcoloapiiakbaaGreatDoor.TermPure Go.Proofs.YtmcoloapiiakbaaGreatDoor.LinesPure Go.Proofs.YtmcoloapiiakbaaGreatDoor.SortP Go.Proofs.YtmcoloapiiakbaaGreatDoor.Round Go.Proofs.YtmcoloapiiakbaaGreatDoor.ParseP

/-- A digit: capital letters, or small ones. -/
def digB (cap : Bool) (d : Nat) : UInt8 := UInt8.ofNat (if d < 10 then 48 + d else if cap then 55 + d else 87 + d)
/-- A number in so many digits. -/
def hexN : Nat → Nat → List UInt8
  | 0, _ => []
  | k + 1, n => hexN k (n / 16) ++ [digB (decide ((k + 1) % 2 = 1)) (n % 16)]
theorem digB_hex : ∀ (c : Bool) (d : Fin 16), hexV (digB c d.val) = some d.val ∧ (digB c d.val).toNat < 128 ∧ digB c d.val ≠ 10 ∧ digB c d.val ≠ 13 := by decide +kernel
theorem hexN_len : ∀ (k n : Nat), (hexN k n).length = k
  | 0, n => rfl
  | k + 1, n => by rw [hexN, List.length_append, hexN_len k]; rfl
theorem hexGo_snoc : ∀ (l : List UInt8) (v u : Nat) (b : UInt8) (r : List UInt8) (d : Nat), (∀ x, hexGo l.length v (l ++ x) = some (u, x)) → hexV b = some d → hexGo (l.length + 1) v (l ++ b :: r) = some (u * 16 + d, r)
  | [], v, u, b, r, d, h, hd => by
    have h0 := h []
    simp only [List.length_nil, hexGo] at h0
    cases h0
    simp only [List.length_nil, List.nil_append, hexGo, hd]
  | c :: l, v, u, b, r, d, h, hd => by
    rw [List.length_cons, List.cons_append, hexGo]
    have h0 := fun x => h x
    simp only [List.length_cons, List.cons_append, hexGo] at h0
    cases hc : hexV c with
    | none => rw [hc] at h0; cases h0 []
    | some e =>
      rw [hc] at h0
      exact hexGo_snoc l (v * 16 + e) u b r d h0 hd
theorem hexGo_hexN : ∀ (k n v : Nat) (x : List UInt8), n < 16 ^ k → hexGo k v (hexN k n ++ x) = some (v * 16 ^ k + n, x)
  | 0, n, v, x, h => by
    have : n = 0 := by simpa using h
    subst this
    simp [hexGo, hexN]
  | k + 1, n, v, x, h => by
    have h1 : n / 16 < 16 ^ k := by rw [Nat.pow_succ] at h; omega
    have hs := hexGo_snoc (hexN k (n / 16)) v (v * 16 ^ k + n / 16) (digB (decide ((k + 1) % 2 = 1)) (n % 16)) x (n % 16) (fun y => by rw [hexN_len]; exact hexGo_hexN k (n / 16) v y h1) (digB_hex _ ⟨n % 16, by omega⟩).1
    rw [hexN_len] at hs
    rw [hexN, List.append_assoc]
    show hexGo (k + 1) v (hexN k (n / 16) ++ (digB (decide ((k + 1) % 2 = 1)) (n % 16) :: x)) = _
    rw [hs]
    congr 2
    rw [Nat.pow_succ, Nat.add_mul, Nat.mul_assoc]
    omega
theorem hexN_low : ∀ (k n : Nat), ∀ b ∈ hexN k n, b.toNat < 128 ∧ b ≠ 10 ∧ b ≠ 13
  | 0, n, b, h => by cases h
  | k + 1, n, b, h => by
    rw [hexN] at h
    rcases List.mem_append.1 h with h | h
    · exact hexN_low k _ b h
    · simp at h
      subst h
      have := digB_hex (decide ((k + 1) % 2 = 1)) ⟨n % 16, by omega⟩
      exact this.2
/-- A rune, escaped. -/
def escR (c : Nat) : List UInt8 := 92 :: 85 :: hexN 8 c
def escT (s : List UInt8) : List UInt8 := (runes s).flatMap escR
theorem escR_low (c : Nat) : ∀ b ∈ escR c, b.toNat < 128 ∧ b ≠ 10 ∧ b ≠ 13 := by
  intro b hb
  unfold escR at hb
  simp only [List.mem_cons] at hb
  rcases hb with rfl | rfl | hb
  · decide
  · decide
  · exact hexN_low 8 c b hb
theorem escT_low (s : List UInt8) : ∀ b ∈ escT s, b.toNat < 128 ∧ b ≠ 10 ∧ b ≠ 13 := by
  intro b hb
  obtain ⟨c, _, hc⟩ := List.mem_flatMap.1 hb
  exact escR_low c b hc
theorem escT_valid (s : List UInt8) : validD (escT s) = true := valid_low fun b hb => (escT_low s b hb).1
theorem esc_rune (lit : Bool) (c : Nat) (hc : c ≤ 1114111) (hv : Lib.validRune (c : Int) = true) (r : List UInt8) : esc lit (85 :: (hexN 8 c ++ r)) = some (encodeRune (c : Int), r) := by
  rw [esc, if_neg (by decide), if_pos rfl, hexGo_hexN 8 c 0 r (Nat.lt_of_le_of_lt hc (by decide)), Nat.zero_mul, Nat.zero_add, rune, if_pos hv]
theorem up_one (stop : UInt8) (hs : stop ≠ 92) (lit nl : Bool) (c : Nat) (hc : c ≤ 1114111) (hv : Lib.validRune (c : Int) = true) (r : List UInt8) :
    up stop lit nl (escR c ++ r) = (up stop lit nl r).map fun x => (encodeRune (c : Int) ++ x.1, x.2) := by
  show up stop lit nl (92 :: (85 :: (hexN 8 c ++ r))) = _
  exact up_esc stop lit nl 92 _ _ r (fun e => hs e.symm) rfl (esc_rune lit c hc hv r)
theorem low_rune (b : UInt8) (h : b.toNat < 128) : Lib.validRune (b.toNat : Int) = true ∧ encodeRune (b.toNat : Int) = [b] := by
  refine ⟨?_, ?_⟩
  · unfold Lib.validRune
    rw [decide_eq_true_iff]
    omega
  · rw [encodeRune, encodeRuneZ_one (by omega) (by omega)]
    simp
theorem up_escT (stop : UInt8) (hs : stop ≠ 92) (lit nl : Bool) (r : List UInt8) : ∀ (n : Nat) (s : List UInt8), s.length ≤ n → validD s = true → up stop lit nl (escT s ++ stop :: r) = some (s, r)
  | _, [], _, _ => up_stop stop lit nl r
  | 0, x :: a, h, _ => by simp at h
  | n + 1, x :: a, h, ha => by
    simp at h
    rcases Utf.step (x :: a) (by simp) ha with ⟨b', t, e, hb', hd, ht⟩ | ⟨ch, t, c, hc⟩
    · cases e
      obtain ⟨h1, h2⟩ := low_rune x hb'
      unfold escT
      rw [runes_ascii x a hb', List.flatMap_cons, List.append_assoc, up_one stop hs lit nl _ (by omega) h1]
      have ih := up_escT stop hs lit nl r n a h ht
      unfold escT at ih
      rw [ih, h2]
      rfl
    · have hl := congrArg List.length hc.eq
      rw [List.length_append] at hl
      simp at hl
      have := hc.two
      have ih := up_escT stop hs lit nl r n t (by omega) hc.rest
      unfold escT at ih ⊢
      rw [runes_chunk hc, List.flatMap_cons, List.append_assoc, up_one stop hs lit nl c hc.le hc.valid, ih, hc.enc, hc.eq]
      rfl
/-- A term, all its text's runes escaped, or as it is shown. -/
def spelt (all : Bool) (t : Term) : List UInt8 :=
  if all = false ∨ t.kind = 2 then shown t
  else if t.kind = 1 then 60 :: (escT t.text ++ [62])
  else if t.kind = 4 then 34 :: (escT t.text ++ (34 :: 64 :: t.extra))
  else if t.kind = 5 then 34 :: (escT t.text ++ (34 :: 94 :: 94 :: 60 :: (t.extra ++ [62])))
  else 34 :: (escT t.text ++ [34])
theorem spelt_spells {t : Term} (h : is t = true) (all : Bool) : Spells (spelt all t) t ∧ NoNl (spelt all t) := by
  unfold spelt
  by_cases hall : all = false ∨ t.kind = 2
  · rw [if_pos hall]
    exact ⟨shown_spells h, NoNl.shown h⟩
  · rw [if_neg hall]
    have hk2 : t.kind ≠ 2 := fun e => hall (.inr e)
    clear hall
    obtain ⟨k, s, e⟩ := t
    have hc := is_cases h
    dsimp only at *
    have hT : NoNl (escT s) := fun b hb => (escT_low s b hb).2
    rcases hc with ⟨rfl, h1, rfl⟩ | ⟨rfl, h1, rfl⟩ | ⟨rfl, h1, rfl⟩ | ⟨rfl, h1, h2⟩ | ⟨rfl, h1, h2⟩
    · rw [if_pos rfl]
      refine ⟨⟨valid_cons 60 (by decide) (valid_append (escT_valid s) (valid_low (by decide))), ⟨60, _, rfl, rfl, by decide⟩, fun b r hb => iri_reads (fun r => up_escT 62 (by decide) false false r s.length s (Nat.le_refl _) (iri_valid h1)) b r⟩, ?_⟩
      exact NoNl.cons (by decide) (NoNl.append hT (NoNl.cons (by decide) NoNl.nil))
    · exact absurd rfl hk2
    · rw [if_neg (by decide), if_neg (by decide), if_neg (by decide)]
      have hu := fun r => up_escT 34 (by decide) true true r s.length s (Nat.le_refl _) (text_valid h1)
      refine ⟨⟨valid_cons 34 (by decide) (valid_append (escT_valid s) (valid_low (by decide))), ⟨34, _, rfl, rfl, by decide⟩, fun b r hb => ?_⟩, ?_⟩
      · exact literal_reads (tail := []) hu b r hb (.inl ⟨rfl, rfl, rfl⟩)
      · exact NoNl.cons (by decide) (NoNl.append hT (NoNl.cons (by decide) NoNl.nil))
    · rw [if_neg (by decide), if_pos rfl]
      have hu := fun r => up_escT 34 (by decide) true true r s.length s (Nat.le_refl _) (text_valid h1)
      refine ⟨⟨valid_cons 34 (by decide) (valid_append (escT_valid s) (valid_cons 34 (by decide) (valid_cons 64 (by decide) (lang_valid h2)))), ⟨34, _, rfl, rfl, by decide⟩, fun b r hb => ?_⟩, ?_⟩
      · exact literal_reads (tail := 64 :: e) hu b r hb (.inr (.inl ⟨rfl, h2, rfl⟩))
      · exact NoNl.cons (by decide) (NoNl.append hT (NoNl.cons (by decide) (NoNl.cons (by decide) (NoNl.of_lang h2))))
    · rw [if_neg (by decide), if_neg (by decide), if_pos rfl]
      have hu := fun r => up_escT 34 (by decide) true true r s.length s (Nat.le_refl _) (text_valid h1)
      refine ⟨⟨valid_cons 34 (by decide) (valid_append (escT_valid s) (valid_cons 34 (by decide) (valid_cons 94 (by decide) (valid_cons 94 (by decide) (valid_cons 60 (by decide) (valid_append (iri_valid h2) (valid_low (by decide)))))))), ⟨34, _, rfl, rfl, by decide⟩, fun b r hb => ?_⟩, ?_⟩
      · exact literal_reads (tail := 94 :: 94 :: 60 :: (e ++ [62])) hu b r hb (.inr (.inr ⟨rfl, h2, rfl⟩))
      · exact NoNl.cons (by decide) (NoNl.append hT (NoNl.cons (by decide) (NoNl.cons (by decide) (NoNl.cons (by decide) (NoNl.cons (by decide) (NoNl.append (NoNl.of_iri h2) (NoNl.cons (by decide) NoNl.nil)))))))
/-- A gap, a line's end. -/
def gapB (way : Nat) : List UInt8 := if way % 2 = 0 then [32] else [9, 32, 32]
def endB (way : Nat) : List UInt8 := if way / 2 % 2 = 0 then [10] else [32, 35, 32, 120, 13, 10]
/-- A triple's line, spelt so. -/
def lineW (way : Nat) (t : Triple) : List UInt8 :=
  gapB way ++ (spelt (decide (way / 4 = 1)) t.s ++ (gapB way ++ (spelt (decide (way / 4 = 1)) t.p ++ (gapB way ++ (spelt (decide (way / 4 = 1)) t.o ++ (gapB way ++ 46 :: endB way))))))
theorem gap_blank (way : Nat) : (∀ b ∈ gapB way, LinesPure.blank b = true) ∧ gapB way ≠ [] ∧ NoNl (gapB way) := by
  unfold gapB
  split
  · exact ⟨by decide, by decide, by unfold NoNl; decide⟩
  · exact ⟨by decide, by decide, by unfold NoNl; decide⟩
theorem Stands.lineW {way : Nat} {t : Triple} (h : isTriple t = true) : Stands (lineW way t) [t] 1 := by
  obtain ⟨h1, h2, h3⟩ := isT_parts h
  obtain ⟨g1, g2, g3⟩ := gap_blank way
  obtain ⟨a1, a2⟩ := spelt_spells h1 (decide (way / 4 = 1))
  obtain ⟨b1, b2⟩ := spelt_spells h2 (decide (way / 4 = 1))
  obtain ⟨c1, c2⟩ := spelt_spells h3 (decide (way / 4 = 1))
  have key : ∀ tail e : List UInt8, (e = [10] ∨ e = [13, 10]) → NoNl tail → validD tail = true → LinesPure.over (LinesPure.blanks tail) = true →
      Stands ((gapB way ++ (spelt (decide (way / 4 = 1)) t.s ++ (gapB way ++ (spelt (decide (way / 4 = 1)) t.p ++ (gapB way ++ (spelt (decide (way / 4 = 1)) t.o ++ (gapB way ++ 46 :: tail))))))) ++ e) [t] 1 := fun tail e he hn hv ho => by
    have hN := NoNl.append g3 (NoNl.append a2 (NoNl.append g3 (NoNl.append b2 (NoNl.append g3 (NoNl.append c2 (NoNl.append g3 (NoNl.cons (c := 46) (by decide) hn)))))))
    exact Stands.line e he hN.line.1 hN.line.2 (lineOf_spells h a1 b1 c1 (gapB way) (gapB way) (gapB way) (gapB way) tail g1 g1 g1 g1 g2 g2 g2 hv ho)
  unfold SpellP.lineW endB
  split
  · have := key [] [10] (.inl rfl) NoNl.nil rfl rfl
    simpa using this
  · have := key [32, 35, 32, 120] [13, 10] (.inr rfl) (by unfold NoNl; decide) (by decide +kernel) (by decide +kernel)
    simpa using this
/-- What stands ahead of them: a remark, an empty line. -/
def headB : List UInt8 := [35, 32, 114, 101, 109, 97, 114, 107, 32, 195, 169, 10, 10]
theorem Stands.head : Stands headB [] 2 := by
  have h1 : Stands ([35, 32, 114, 101, 109, 97, 114, 107, 32, 195, 169] ++ [10]) [] 1 := Stands.empty [10] (.inl rfl) (by decide) (NoNl.line (x := [35, 32, 114, 101, 109, 97, 114, 107, 32, 195, 169]) (by unfold NoNl; decide)).2 (by decide +kernel)
  have h2 : Stands ([] ++ [10]) [] 1 := Stands.empty [10] (.inl rfl) (by decide) (fun y e => by simp at e) (by decide +kernel)
  exact h1.append h2
end Go.Proofs.YtmcoloapiiakbaaGreatDoor.SpellP
/-
  triviumlaw5.hex walked.
-/
set_option linter.unusedVariables false
set_option linter.unusedSimpArgs false
namespace Go.Proofs.YtmcoloapiiakbaaGreatDoor.LSpell
open Go.RowKit Go.Lib Go.Proofs.YtmcoloapiiakbaaGreatDoor.B Go.Proofs.YtmcoloapiiakbaaGreatDoor.Rd Go.Proofs.YtmcoloapiiakbaaGreatDoor.Utf Go.Proofs.YtmcoloapiiakbaaGreatDoor.TermPure Go.Proofs.YtmcoloapiiakbaaGreatDoor.LinesPure Go.Proofs.YtmcoloapiiakbaaGreatDoor.Tx Go.Proofs.YtmcoloapiiakbaaGreatDoor.Env Go.Proofs.YtmcoloapiiakbaaGreatDoor.Tri Go.Proofs.YtmcoloapiiakbaaGreatDoor.SortP Go.Proofs.YtmcoloapiiakbaaGreatDoor.SpellP

theorem digS : ∀ d : Fin 16, (⟨#[48, 49, 50, 51, 52, 53, 54, 55, 56, 57, 97, 98, 99, 100, 101, 102]⟩ : ByteArray).extract d.val (d.val + 1) = mkS [digB false d.val] ∧ (⟨#[48, 49, 50, 51, 52, 53, 54, 55, 56, 57, 65, 66, 67, 68, 69, 70]⟩ : ByteArray).extract d.val (d.val + 1) = mkS [digB true d.val] := by decide +kernel
theorem nat_bits (n : Nat) (h : n < 9223372036854775808) : (BitVec.ofInt 64 (n : Int)).toNat = n := by
  rw [BitVec.toNat_ofInt]
  omega
theorem and_15 (n : Nat) (h : n < 9223372036854775808) : Go.bits .and .i64 (n : Int) 15 = ((n % 16 : Nat) : Int) := by
  have e : Go.bits .and .i64 (n : Int) 15 = IntKind.i64.wrap (((BitVec.ofInt 64 (n : Int)).toNat &&& 15 : Nat) : Int) := by
    simp only [bits, BitVec.toNat_and]
    rfl
  rw [e, nat_bits n h, show n &&& 15 = n % 16 from Nat.and_two_pow_sub_one_eq_mod n 4, IntKind.wrap_i64]
  omega
theorem and_1 (n : Nat) (h : n < 9223372036854775808) : Go.bits .and .i64 (n : Int) 1 = ((n % 2 : Nat) : Int) := by
  have e : Go.bits .and .i64 (n : Int) 1 = IntKind.i64.wrap (((BitVec.ofInt 64 (n : Int)).toNat &&& 1 : Nat) : Int) := by
    simp only [bits, BitVec.toNat_and]
    rfl
  rw [e, nat_bits n h, show n &&& 1 = n % 2 from Nat.and_two_pow_sub_one_eq_mod n 1, IntKind.wrap_i64]
  omega
set_option maxHeartbeats 3200000 in
theorem hex_step (k n : Nat) (hk : k < 8) (hn : n ≤ 1099511627776) (ih : ∀ w, Calls Tryz.prog 50 #[.int .i64 ((n / 16 : Nat) : Int), .int .i64 (k : Int)] w fun e w' => e = .returned (.string (mkS (hexN k (n / 16)))) ∧ Below w.heap.size w w')
    (w : World) : Calls Tryz.prog 50 #[.int .i64 (n : Int), .int .i64 ((k + 1 : Nat) : Int)] w fun e w' => e = .returned (.string (mkS (hexN (k + 1) n))) ∧ Below w.heap.size w w' := by
  obtain ⟨K, hK⟩ : ∃ K, K = k + 1 := ⟨_, rfl⟩
  have hw : IntKind.i64.wrap ((K : Int) - 1) = (k : Int) := by rw [IntKind.wrap_i64]; omega
  have hk0 : ((K : Int) == 0) = false := by rw [beq_eq_false_iff_ne]; omega
  have i0 : (0 : Int) ≤ (n : Int) := by omega
  have i1 : (n : Int) ≤ 1099511627776 := by omega
  have j0 : (0 : Int) ≤ (K : Int) := by omega
  have j1 : (K : Int) ≤ 8 := by omega
  rw [← hK]
  have HI := Lib.hid ih
  have hl := hexN_len k (n / 16)
  have zl := mkS_size (hexN k (n / 16))
  have HF : Hid (hexN K n = hexN k (n / 16) ++ [digB (decide (K % 2 = 1)) (n % 16)]) := Lib.hid (by rw [hK, hexN])
  obtain ⟨x, hx⟩ : ∃ x, x = hexN k (n / 16) := ⟨_, rfl⟩
  rw [← hx] at HI hl zl HF
  rw [HF.out]
  clear hx ih
  obtain ⟨D, hD⟩ : ∃ D, D = n % 16 := ⟨_, rfl⟩
  have hD1 : (D : Int) ≤ 15 := by omega
  have hD0 : (0 : Int) ≤ (D : Int) := by omega
  have hd := digS ⟨D, by omega⟩
  rw [← hD]
  dsimp only at hd
  obtain ⟨hd1, hd2⟩ := hd
  have hb2 : Go.bits .and .i64 (n : Int) 15 = (D : Int) := by rw [hD]; exact and_15 n (by omega)
  have hwD : IntKind.i64.wrap ((D : Int) + 1) = (D : Int) + 1 := by rw [IntKind.wrap_i64]; omega
  have htD : ((D : Int) + 1).toNat = D + 1 := by omega
  have HWD := Lib.hid (And.intro hwD htD)
  have HB2 := Lib.hid hb2
  have HW := Lib.hid hw
  have HZ := Lib.hid zl
  have HXl : Hid (x.length ≤ 8) := Lib.hid (by omega)
  have HD1 := Lib.hid hd1
  have HD2 := Lib.hid hd2
  rcases Nat.mod_two_eq_zero_or_one K with hp | hp
  · have hb1 : Go.bits .and .i64 (K : Int) 1 = 0 := by rw [and_1 K (by omega), hp]; rfl
    have hp2 : decide (K % 2 = 1) = false := by rw [hp]; rfl
    rw [hp2]
    have HAP := Lib.hid (mkS_append x [digB false D])
    clear hp hp2 hd1 hd2 hK hb2 hw zl hl HF hwD htD hD
    go_enter Tryz.func50, Tryz.ntmps50
    go_wp2
    have HI1 := Lib.hid (fun p : QT.Bel (w.alloc (.cells #[.string ⟨#[48, 49, 50, 51, 52, 53, 54, 55, 56, 57, 97, 98, 99, 100, 101, 102]⟩, .string ⟨#[48, 49, 50, 51, 52, 53, 54, 55, 56, 57, 65, 66, 67, 68, 69, 70]⟩] 9)) => HI.out p.w)
    have hw := HW.out
    have hap := HAP.out
    have zl := HZ.out
    have hxl := HXl.out
    have z1 : ∀ b : UInt8, (mkS [b]).size = 1 := fun b => mkS_size [b]
    have hb2 := HB2.out
    obtain ⟨hwD, htD⟩ := HWD.out
    have hd := HD1.out
    refine QT.region_all (by kernel_rfl) (by kernel_rfl) ?_
    iterate 4 (go_big_quiet_step (fail))
    go_big_quiet_step (exact QT.Bel.call _ (HI1.out _))
    iterate 9 (go_big_quiet_step (fail))
    refine wpQuiet_nil ?_
    intro w4 hw'
    obtain ⟨⟨_, hb⟩, rfl⟩ := hw'
    go_wp2
    go_ret
    exact ⟨rfl, bel_step (bel_alloc (Below.refl _ _) _) hb⟩
  · have hb1 : Go.bits .and .i64 (K : Int) 1 = 1 := by rw [and_1 K (by omega), hp]; rfl
    have hp2 : decide (K % 2 = 1) = true := by rw [hp]; rfl
    rw [hp2]
    have HAP := Lib.hid (mkS_append x [digB true D])
    clear hp hp2 hd1 hd2 hK hb2 hw zl hl HF hwD htD hD
    go_enter Tryz.func50, Tryz.ntmps50
    go_wp2
    have HI1 := Lib.hid (fun p : QT.Bel (w.alloc (.cells #[.string ⟨#[48, 49, 50, 51, 52, 53, 54, 55, 56, 57, 97, 98, 99, 100, 101, 102]⟩, .string ⟨#[48, 49, 50, 51, 52, 53, 54, 55, 56, 57, 65, 66, 67, 68, 69, 70]⟩] 9)) => HI.out p.w)
    have hw := HW.out
    have hap := HAP.out
    have zl := HZ.out
    have hxl := HXl.out
    have z1 : ∀ b : UInt8, (mkS [b]).size = 1 := fun b => mkS_size [b]
    have hb2 := HB2.out
    obtain ⟨hwD, htD⟩ := HWD.out
    have hd := HD2.out
    refine QT.region_all (by kernel_rfl) (by kernel_rfl) ?_
    iterate 4 (go_big_quiet_step (fail))
    go_big_quiet_step (exact QT.Bel.call _ (HI1.out _))
    iterate 9 (go_big_quiet_step (fail))
    refine wpQuiet_nil ?_
    intro w4 hw'
    obtain ⟨⟨_, hb⟩, rfl⟩ := hw'
    go_wp2
    go_ret
    exact ⟨rfl, bel_step (bel_alloc (Below.refl _ _) _) hb⟩
theorem hex_zero (n : Int) (w : World) : Calls Tryz.prog 50 #[.int .i64 n, .int .i64 0] w fun e w' => e = .returned (.string (mkS [])) ∧ Below w.heap.size w w' := by
  go_enter Tryz.func50, Tryz.ntmps50
  go_wp2
  go_ret
  exact ⟨rfl, Below.refl _ _⟩
theorem hex_calls : ∀ (k n : Nat) (hk : k ≤ 8) (hn : n ≤ 1099511627776) (w : World), Calls Tryz.prog 50 #[.int .i64 (n : Int), .int .i64 (k : Int)] w fun e w' => e = .returned (.string (mkS (hexN k n))) ∧ Below w.heap.size w w'
  | 0, n, _, _, w => hex_zero n w
  | k + 1, n, hk, hn, w => hex_step k n (by omega) hn (fun w => hex_calls k (n / 16) (by omega) (by omega) w) w
end Go.Proofs.YtmcoloapiiakbaaGreatDoor.LSpell
/-
  triviumlaw5.spelt walked.
-/
set_option linter.unusedVariables false
set_option linter.unusedSimpArgs false
namespace Go.Proofs.YtmcoloapiiakbaaGreatDoor.LSpell
open Go.RowKit Go.Lib Go.Proofs.YtmcoloapiiakbaaGreatDoor.B Go.Proofs.YtmcoloapiiakbaaGreatDoor.Rd Go.Proofs.YtmcoloapiiakbaaGreatDoor.Utf Go.Proofs.YtmcoloapiiakbaaGreatDoor.TermPure Go.Proofs.YtmcoloapiiakbaaGreatDoor.LinesPure Go.Proofs.YtmcoloapiiakbaaGreatDoor.Tx Go.Proofs.YtmcoloapiiakbaaGreatDoor.Env Go.Proofs.YtmcoloapiiakbaaGreatDoor.Tri Go.Proofs.YtmcoloapiiakbaaGreatDoor.SortP Go.Proofs.YtmcoloapiiakbaaGreatDoor.SpellP Go.Proofs.YtmcoloapiiakbaaGreatDoor.ParseP Go.Proofs.YtmcoloapiiakbaaGreatDoor.RefCmp

theorem escT_take (R : List Nat) (k : Nat) (h : k < R.length) : (R.take (k + 1)).flatMap escR = (R.take k).flatMap escR ++ escR R[k] := by
  rw [List.take_succ_eq_append_getElem h, List.flatMap_append]
  simp
theorem escR_len (c : Nat) : (escR c).length = 10 := by
  unfold escR
  simp [hexN_len]
theorem esc_len : ∀ R : List Nat, (R.flatMap escR).length = 10 * R.length
  | [] => rfl
  | c :: R => by rw [List.flatMap_cons, List.length_append, escR_len, esc_len R, List.length_cons]; omega
set_option maxHeartbeats 6400000 in
set_option maxRecDepth 100000 in
theorem spelt_shown (t : Term) (ht : is t = true) (all : Bool) (h : all = false ∨ t.kind = 2) (w : World) :
    Calls Tryz.prog 25 #[Ref5.termV t, .bool all] w fun e w' => e = .returned (.string (mkS (spelt all t))) ∧ Below w.heap.size w w' := by
  obtain ⟨h1, h2, h3, h4⟩ := is_small ht
  have HS := Lib.hid (fun w => show4_calls t (by unfold Cmp.SmallM; omega) w)
  have HE : Hid (spelt all t = shown t) := Lib.hid (by unfold spelt; rw [if_pos h])
  rw [HE.out]
  obtain ⟨k, x, ex⟩ := t
  unfold Ref5.termV at HS
  unfold Ref5.termV
  dsimp only at *
  clear ht
  cases all
  · clear h
    go_enter Tryz.func25, Tryz.ntmps25
    go_wp2_with fail
    refine (HS.out _).mono ?_
    rintro e w2 ⟨rfl, hb⟩
    have HB := Lib.hid (bel_step (bel_alloc (Below.refl _ _) _) hb)
    clear hb
    go_wp2
    go_ret
    exact ⟨rfl, HB.out⟩
  · obtain rfl : k = 2 := by simpa using h
    clear h
    go_enter Tryz.func25, Tryz.ntmps25
    go_wp2_with fail
    refine (HS.out _).mono ?_
    rintro e w2 ⟨rfl, hb⟩
    have HB := Lib.hid (bel_step (bel_alloc (Below.refl _ _) _) hb)
    clear hb
    go_wp2
    go_ret
    exact ⟨rfl, HB.out⟩
/-- How such a term stands. -/
theorem spelt_ways {t : Term} (ht : is t = true) (h : t.kind ≠ 2) : (t.kind = 1 ∧ spelt true t = 60 :: (escT t.text ++ [62])) ∨ (t.kind = 3 ∧ spelt true t = 34 :: (escT t.text ++ [34])) ∨
    (t.kind = 4 ∧ spelt true t = 34 :: (escT t.text ++ (34 :: 64 :: t.extra))) ∨ (t.kind = 5 ∧ spelt true t = 34 :: (escT t.text ++ (34 :: 94 :: 94 :: 60 :: (t.extra ++ [62])))) := by
  have hs := is_small ht
  unfold spelt
  rw [if_neg (by simp [h])]
  by_cases h1 : t.kind = 1
  · exact .inl ⟨h1, by rw [if_pos h1]⟩
  by_cases h4 : t.kind = 4
  · exact .inr (.inr (.inl ⟨h4, by rw [if_neg h1, if_pos h4]⟩))
  by_cases h5 : t.kind = 5
  · exact .inr (.inr (.inr ⟨h5, by rw [if_neg h1, if_neg h4, if_pos h5]⟩))
  exact .inr (.inl ⟨by omega, by rw [if_neg h1, if_neg h4, if_neg h5]⟩)
theorem app3 (a b c : List UInt8) : (mkS a ++ mkS b) ++ mkS c = mkS (a ++ (b ++ c)) := by rw [mkS_append, mkS_append, List.append_assoc]
theorem app4 (a b c d : List UInt8) : ((mkS a ++ mkS b) ++ mkS c) ++ mkS d = mkS (a ++ (b ++ (c ++ d))) := by rw [mkS_append, mkS_append, mkS_append, List.append_assoc, List.append_assoc]
theorem lit_app (a b : List UInt8) : (⟨a.toArray⟩ : ByteArray) ++ mkS b = mkS (a ++ b) := mkS_append a b
set_option maxHeartbeats 6400000 in
set_option maxRecDepth 100000 in
theorem spelt_esc (t : Term) (ht : is t = true) (hk2 : t.kind ≠ 2) (w : World) :
    Calls Tryz.prog 25 #[Ref5.termV t, .bool true] w fun e w' => e = .returned (.string (mkS (spelt true t))) ∧ Below w.heap.size w w' := by
  obtain ⟨h1, h2, h3, h4⟩ := is_small ht
  have HWays := Lib.hid (spelt_ways ht hk2)
  have HT0 := Lib.hid (Tc.TC.new w t)
  obtain ⟨kd, x, ex⟩ := t
  dsimp only at *
  obtain ⟨Y, hY⟩ : ∃ Y, Y = spelt true ⟨kd, x, ex⟩ := ⟨_, rfl⟩
  rw [← hY] at HWays
  rw [← hY]
  unfold Ref5.termV
  dsimp only
  have hkk : (kd == 2) = false := by rw [beq_eq_false_iff_ne]; exact hk2
  obtain ⟨cap, C, hc1, hc2, hcv, hC⟩ := runes_conv x (by omega) (w.alloc (.cells #[.int .i64 kd, .string (mkS x), .string (mkS ex)] 23))
  have hRl := runes_len x
  have hle' : ∀ c ∈ runes x, c ≤ 1114111 := Ref5.runesGo_le x.length x
  have HEs : Hid (escT x = (runes x).flatMap escR) := Lib.hid rfl
  generalize runes x = R at *
  have HC := Lib.hid hC
  have HLE := Lib.hid hle'
  clear hle' hC hY ht hk2
  have hRb : R.length ≤ 60 := by omega
  obtain ⟨W0, hW0⟩ : ∃ W0, W0 = ((w.alloc (.cells #[.int .i64 kd, .string (mkS x), .string (mkS ex)] 23)).alloc (.cells C 21)).drew := ⟨_, rfl⟩
  have HW0 := Lib.hid hW0
  have HBW : Hid (Below w.heap.size w W0) := Lib.hid (by rw [hW0]; exact bel_drew (bel_alloc (bel_alloc (Below.refl _ _) _) _))
  have HTW : Hid (Tc.TC W0 w.heap.size 0 ⟨kd, x, ex⟩) := Lib.hid (by rw [hW0]; exact (HT0.out.alloc _).moved (fun _ => rfl) (fun _ => rfl))
  have HCW : Hid (∀ k (h : k < R.length), W0.cell? ⟨w.heap.size + 1, k, none⟩ = some (.int .i32 (R[k] : Int))) := Lib.hid (fun k h => by
    rw [hW0]
    unfold World.cell?
    dsimp only
    rw [show (((w.alloc (.cells #[.int .i64 kd, .string (mkS x), .string (mkS ex)] 23)).alloc (.cells C 21)).drew).heap = ((w.alloc (.cells #[.int .i64 kd, .string (mkS x), .string (mkS ex)] 23)).alloc (.cells C 21)).heap from rfl]
    rw [show w.heap.size + 1 = (w.alloc (.cells #[.int .i64 kd, .string (mkS x), .string (mkS ex)] 23)).heap.size by simp, Kd.heap_new]
    exact HC.out k h)
  have hsz0 : w.heap.size + 1 < W0.heap.size := by rw [hW0]; simp [World.drew]
  clear hW0 HC HT0
  go_enter Tryz.func25, Tryz.ntmps25
  go_wp2
  go_loopw [5, 7] (fun v5 vi wr => ∃ (k : Nat) (out : List UInt8), k ≤ R.length ∧ vi = .int .i64 k ∧ v5 = .string (mkS out) ∧ out.length = 10 * k ∧ Hid (out = (R.take k).flatMap escR) ∧ Hid (Below W0.heap.size W0 wr)) (fun _ vi _ => R.length - (intOf vi).toNat)
  case atStart => exact ⟨0, [], by omega, rfl, rfl, rfl, Lib.hid rfl, Lib.hid (by rw [HW0.out]; exact Below.refl _ _)⟩
  case round =>
    obtain ⟨k, out, hk, rfl, rfl, hol, HO, HW⟩ := hrel
    have hkB : k ≤ 60 := by omega
    have zo := mkS_size out
    by_cases hlt : k < R.length
    · have hd : decide (k < R.length) = true := decide_eq_true hlt
      have ik : (k : Int) < (R.length : Int) := by omega
      have ik0 : (0 : Int) ≤ (k : Int) := by omega
      obtain ⟨n, hn0⟩ : ∃ n, n = R[k] := ⟨_, rfl⟩
      have hcell : wr.cell? ⟨w.heap.size + 1, k, none⟩ = some (.int .i32 (n : Int)) := (HW.out.cell (p := ⟨w.heap.size + 1, k, none⟩) hsz0).trans (by rw [hn0]; exact HCW.out k hlt)
      have hnl : n ≤ 1114111 := HLE.out n (by rw [hn0]; exact List.getElem_mem hlt)
      have hnl1 : (n : Int) ≤ 1114111 := by omega
      have hnl0 : (0 : Int) ≤ (n : Int) := by omega
      have HHex : Hid (∀ w, Calls Tryz.prog 50 #[.int .i64 (n : Int), .int .i64 8] w fun e w' => e = .returned (.string (mkS (hexN 8 n))) ∧ Below w.heap.size w w') := Lib.hid (fun w => hex_calls 8 n (by omega) (by omega) w)
      have HNx : Hid ((R.take (k + 1)).flatMap escR = out ++ ([92, 85] ++ hexN 8 n)) := Lib.hid (by rw [escT_take R k hlt, ← HO.out, ← hn0]; rfl)
      have hl8 := hexN_len 8 n
      obtain ⟨h8, hh8⟩ : ∃ h8, h8 = hexN 8 n := ⟨_, rfl⟩
      rw [← hh8] at HHex HNx hl8
      have z8 := mkS_size h8
      clear hn0 hh8
      obtain ⟨s1, hs1⟩ : ∃ s1, mkS out ++ (⟨#[92, 85]⟩ : ByteArray) = s1 := ⟨_, rfl⟩
      obtain ⟨out2, ho2⟩ : ∃ out2, out2 = out ++ ([92, 85] ++ h8) := ⟨_, rfl⟩
      have hs2 : s1 ++ mkS h8 = mkS out2 := by
        rw [← hs1, ho2]
        exact app3 out [92, 85] h8
      have zs1 : s1.size = 10 * k + 2 := by rw [← hs1, ByteArray.size_append, mkS_size, hol]; rfl
      have hol2 : out2.length = 10 * k + 10 := by rw [ho2]; simp; omega
      rw [← ho2] at HNx
      have HOl := Lib.hid hol2
      have hob : out.length ≤ 600 := by omega
      have hol8 : h8.length ≤ 8 := by omega
      clear ho2 hol2 hol hl8
      go_wp2_with fail
      refine (HHex.out _).mono ?_
      rintro e w3 ⟨rfl, hb⟩
      have HW3 := Lib.hid (bel_step HW.out hb)
      clear hb HHex
      go_wp2
      go_roundw
      case rel => exact ⟨k + 1, out2, by omega, by go_num, rfl, by rw [HOl.out]; omega, Lib.hid HNx.out.symm, HW3⟩
      case measure => simp [intOf]; omega
    · obtain rfl : k = R.length := by omega
      have hd : decide (R.length < R.length) = false := decide_eq_false hlt
      have HTx := Lib.hid (HTW.out.below HW.out)
      obtain ⟨c0, c1, c2, _, _, _⟩ := HTx.out
      simp only [Nat.zero_add] at c1 c2
      have HO2 : Hid (escT x = out) := Lib.hid (by rw [HEs.out, HO.out, List.take_length])
      have HBF : Hid (Below w.heap.size w wr) := Lib.hid (bel_step HBW.out HW.out)
      rw [HO2.out] at HWays
      have hw := HWays.out
      have zx := mkS_size ex
      clear HWays HW0 hlt HTx
      obtain ⟨s1, hs1⟩ : ∃ s1, (⟨#[60]⟩ : ByteArray) ++ mkS out = s1 := ⟨_, rfl⟩
      obtain ⟨s2, hs2⟩ : ∃ s2, (⟨#[34]⟩ : ByteArray) ++ mkS out = s2 := ⟨_, rfl⟩
      have zs1 : s1.size = out.length + 1 := by rw [← hs1, ByteArray.size_append, mkS_size, Nat.add_comm]; rfl
      have zs2 : s2.size = out.length + 1 := by rw [← hs2, ByteArray.size_append, mkS_size, Nat.add_comm]; rfl
      have e1 : s1 = mkS (60 :: out) := by rw [← hs1]; exact mkS_append [60] out
      have e2 : s2 = mkS (34 :: out) := by rw [← hs2]; exact mkS_append [34] out
      have hob : out.length ≤ 600 := by omega
      clear hol
      rcases hw with ⟨rfl, hy⟩ | ⟨rfl, hy⟩ | ⟨rfl, hy⟩ | ⟨rfl, hy⟩
      · have p2 : s1 ++ (⟨#[62]⟩ : ByteArray) = mkS Y := by rw [hy, e1]; exact mkS_append (60 :: out) [62]
        clear hs2 hy e1 e2
        go_wp2
        go_ret
        exact ⟨rfl, HBF.out⟩
      · have p2 : s2 ++ (⟨#[34]⟩ : ByteArray) = mkS Y := by rw [hy, e2]; exact mkS_append (34 :: out) [34]
        clear hs1 hy e1 e2
        go_wp2
        go_ret
        exact ⟨rfl, HBF.out⟩
      · obtain ⟨s3, hs3⟩ : ∃ s3, s2 ++ (⟨#[34, 64]⟩ : ByteArray) = s3 := ⟨_, rfl⟩
        have zs3 : s3.size = out.length + 3 := by rw [← hs3, ByteArray.size_append, zs2]; rfl
        have p2 : s3 ++ mkS ex = mkS Y := by
          rw [← hs3, e2, hy]
          exact app3 (34 :: out) [34, 64] ex
        clear hs1 hy e1 e2
        go_wp2
        go_ret
        exact ⟨rfl, HBF.out⟩
      · obtain ⟨s3, hs3⟩ : ∃ s3, s2 ++ (⟨#[34, 94, 94, 60]⟩ : ByteArray) = s3 := ⟨_, rfl⟩
        have zs3 : s3.size = out.length + 5 := by rw [← hs3, ByteArray.size_append, zs2]; rfl
        obtain ⟨s4, hs4⟩ : ∃ s4, s3 ++ mkS ex = s4 := ⟨_, rfl⟩
        have zs4 : s4.size = out.length + 5 + ex.length := by rw [← hs4, ByteArray.size_append, zs3, zx]
        have p2 : s4 ++ (⟨#[62]⟩ : ByteArray) = mkS Y := by
          rw [← hs4, ← hs3, e2, hy]
          exact app4 (34 :: out) [34, 94, 94, 60] ex [62]
        clear hs1 hy e1 e2
        go_wp2
        go_ret
        exact ⟨rfl, HBF.out⟩
theorem spelt_calls (t : Term) (ht : is t = true) (all : Bool) (w : World) :
    Calls Tryz.prog 25 #[Ref5.termV t, .bool all] w fun e w' => e = .returned (.string (mkS (spelt all t))) ∧ Below w.heap.size w w' := by
  by_cases h : all = false ∨ t.kind = 2
  · exact spelt_shown t ht all h w
  · have h2 : t.kind ≠ 2 := fun e => h (.inr e)
    obtain rfl : all = true := by
      cases all
      · exact absurd (.inl rfl) h
      · rfl
    exact spelt_esc t ht h2 w
end Go.Proofs.YtmcoloapiiakbaaGreatDoor.LSpell
/-
  The law LinesSpell, walked.
-/
set_option linter.unusedVariables false
set_option linter.unusedSimpArgs false
namespace Go.Proofs.YtmcoloapiiakbaaGreatDoor.LSpell
open Go.RowKit Go.Lib Go.Proofs.YtmcoloapiiakbaaGreatDoor.B Go.Proofs.YtmcoloapiiakbaaGreatDoor.Rd Go.Proofs.YtmcoloapiiakbaaGreatDoor.Utf Go.Proofs.YtmcoloapiiakbaaGreatDoor.TermPure Go.Proofs.YtmcoloapiiakbaaGreatDoor.LinesPure Go.Proofs.YtmcoloapiiakbaaGreatDoor.Tx Go.Proofs.YtmcoloapiiakbaaGreatDoor.Env Go.Proofs.YtmcoloapiiakbaaGreatDoor.Tri Go.Proofs.YtmcoloapiiakbaaGreatDoor.SortP Go.Proofs.YtmcoloapiiakbaaGreatDoor.Print Go.Proofs.YtmcoloapiiakbaaGreatDoor.Cmp Go.Proofs.YtmcoloapiiakbaaGreatDoor.Long Go.Proofs.YtmcoloapiiakbaaGreatDoor.SortW Go.Proofs.YtmcoloapiiakbaaGreatDoor.ParseP Go.Proofs.YtmcoloapiiakbaaGreatDoor.Parse Go.Proofs.YtmcoloapiiakbaaGreatDoor.LSort Go.Proofs.YtmcoloapiiakbaaGreatDoor.LBack Go.Proofs.YtmcoloapiiakbaaGreatDoor.SpellP

theorem spelt_len {t : Term} (h : is t = true) (all : Bool) : (spelt all t).length ≤ 700 := by
  obtain ⟨h1, h2, _, _⟩ := is_small h
  have hs := shown_len t
  have he : (escT t.text).length ≤ 600 := by
    have := runes_len t.text
    unfold escT
    rw [esc_len]
    omega
  unfold spelt
  repeat' split
  all_goals simp
  all_goals omega
theorem gap_len (y : Nat) : (gapB y).length ≤ 3 := by unfold gapB; split <;> simp
theorem end_len (y : Nat) : (endB y).length ≤ 6 := by unfold endB; split <;> simp
theorem flatW_take (y : Nat) (l : List Triple) (k : Nat) (h : k < l.length) : (l.take (k + 1)).flatMap (lineW y) = (l.take k).flatMap (lineW y) ++ lineW y l[k] := by
  rw [List.take_succ_eq_append_getElem h, List.flatMap_append]
  simp
theorem spell_parse (y : Nat) (l : List Triple) (hV : Valid l) (hl : l.length ≤ 20) (hx : (headB ++ l.flatMap (lineW y)).length ≤ 20000) : parse (headB ++ l.flatMap (lineW y)) = (sortT l, 2 + l.length, 0) := by
  have h := Stands.head.append (Stands.flat (f := lineW y) l (fun t ht => Stands.lineW (hV t ht)))
  rw [List.nil_append] at h
  exact h.parse hV (by omega) (by omega) hx
theorem app_to {a b c : List UInt8} (h : c = a ++ b) : mkS a ++ mkS b = mkS c := by rw [h, mkS_append]
set_option maxHeartbeats 12800000 in
set_option maxRecDepth 100000 in
theorem walk0 (w : World) (he : Env w) (l : List Triple) (A : Option Addr) (c : Nat) (HL : triK.sl.M w (fun k => k < w.heap.size) l [.slice A l.length c]) (n : Int) (hn : -9223372036854775808 ≤ n ∧ n ≤ 9223372036854775807) :
    Calls Tryz.prog 7 #[.slice A l.length c, .int .i64 n] w fun e w' => e = .returned (.bool true) ∧ Below w.heap.size w w' := by
  have HLg := Lib.hid (long_calls l A c w HL)
  have HR := Lib.hid (row_cells HL)
  have h47 := sl_len HL
  have HROW : Hid (∀ w', Below w.heap.size w w' → triK.sl.M w' (fun k => k < w'.heap.size) l [.slice A l.length c]) := Lib.hid (fun w' hb => triK.sl.mono (fun k _ hk => hk) (Kd.M_below HL hb))
  have HE := Lib.hid he
  clear HL he
  go_enter Tryz.func7, Tryz.ntmps7
  by_cases h1 : 20 < l.length
  · go_wp2
    go_ret
    exact ⟨rfl, Below.refl _ _⟩
  by_cases l1 : 9000 < total l
  · rw [decide_eq_true l1] at HLg
    clear l1
    go_wp2_with fail
    refine HLg.out.mono ?_
    rintro e w2 ⟨rfl, hb⟩
    have HB := Lib.hid hb
    clear hb
    go_wp2
    go_ret
    exact ⟨rfl, HB.out⟩
  rw [decide_eq_false l1] at HLg
  have HTot : Hid (total l ≤ 9000) := Lib.hid (by omega)
  clear l1
  go_wp2_with fail
  refine HLg.out.mono ?_
  rintro e w2 ⟨rfl, hb⟩
  have HB2 := Lib.hid hb
  have HMay := Lib.hid (may_calls l A c w2 (HE.out.below HB2.out) (HROW.out w2 HB2.out) HTot.out)
  clear hb HLg
  by_cases m1 : l.all isTriple = true
  case neg =>
    rw [show l.all isTriple = false by simpa using m1] at HMay
    clear m1
    go_wp2_with fail
    refine HMay.out.mono ?_
    rintro e w3 ⟨rfl, hb⟩
    have HB3 := Lib.hid (bel_step HB2.out hb)
    clear hb
    go_wp2
    go_ret
    exact ⟨rfl, HB3.out⟩
  rw [m1] at HMay
  have HV := Lib.hid (valid_of m1)
  clear m1
  by_cases c4 : n < 0
  · go_wp2_with fail
    refine HMay.out.mono ?_
    rintro e w3 ⟨rfl, hb⟩
    have HB3 := Lib.hid (bel_step HB2.out hb)
    clear hb
    go_wp2
    go_ret
    exact ⟨rfl, HB3.out⟩
  obtain ⟨y, rfl⟩ : ∃ k : Nat, n = (k : Int) := ⟨n.toNat, by omega⟩
  clear hn
  by_cases c5 : 7 < y
  · have c5' : (7 : Int) < (y : Int) := by omega
    go_wp2_with fail
    refine HMay.out.mono ?_
    rintro e w3 ⟨rfl, hb⟩
    have HB3 := Lib.hid (bel_step HB2.out hb)
    clear hb
    go_wp2
    go_ret
    exact ⟨rfl, HB3.out⟩
  have c5' : ¬ (7 : Int) < (y : Int) := by omega
  have hy7 : (y : Int) ≤ 7 := by omega
  have hy0 : (0 : Int) ≤ (y : Int) := by omega
  have HSm := Lib.hid (small_of HTot.out)
  have hl20 : l.length ≤ 20 := by omega
  go_wp2_with fail
  refine HMay.out.mono ?_
  rintro e w3 ⟨rfl, hb⟩
  have HB3 := Lib.hid (bel_step HB2.out hb)
  clear hb HMay h1 c4 c5 c5' HB2
  have HHd : Hid ((⟨#[35, 32, 114, 101, 109, 97, 114, 107, 32, 195, 169, 10, 10]⟩ : ByteArray) = mkS headB) := Lib.hid rfl
  go_wp2
  go_loopw [5, 6] (fun v5 vi wr => ∃ (k : Nat) (out : List UInt8), k ≤ l.length ∧ vi = .int .i64 k ∧ v5 = .string (mkS out) ∧ out.length ≤ 13 + 2200 * k ∧ Hid (out = headB ++ (l.take k).flatMap (lineW y)) ∧ Hid (Below w.heap.size w wr)) (fun _ vi _ => l.length - (intOf vi).toNat)
  case atStart => exact ⟨0, headB, by omega, rfl, by rw [← HHd.out], by unfold headB; simp, Lib.hid (by simp), HB3⟩
  case round =>
    obtain ⟨k, out, hk, rfl, rfl, hol, HO, HW⟩ := hrel
    have zo := mkS_size out
    clear HB3 HHd
    by_cases hlt : k < l.length
    · have hd : decide (k < l.length) = true := decide_eq_true hlt
      have ik : (k : Int) < (l.length : Int) := by omega
      have ik0 : (0 : Int) ≤ (k : Int) := by omega
      obtain ⟨b, off, rfl, hbs, hcells⟩ := HR.out k hlt
      have hcx0 := hcells k hlt
      have HC9 := Lib.hid hcx0
      obtain ⟨x, hx⟩ : ∃ x, x = l[k] := ⟨_, rfl⟩
      have HNx : Hid ((l.take (k + 1)).flatMap (lineW y) = (l.take k).flatMap (lineW y) ++ lineW y x) := Lib.hid (by rw [hx]; exact flatW_take y l k hlt)
      have HIs := Lib.hid (isT_parts (HV.out x (by rw [hx]; exact List.getElem_mem hlt)))
      rw [← hx] at HC9
      clear hcells hcx0 hx
      go_upto_region 7 with fail
      go_cut [7] (fun v7 wx => v7 = .string (mkS (gapB y)) ∧ Hid (Below w.heap.size w wx))
      case first =>
        rcases Nat.mod_two_eq_zero_or_one y with hp | hp
        · have hb1 : Go.bits .and .i64 (y : Int) 1 = 0 := by rw [and_1 y (by omega), hp]; rfl
          have HG : Hid (mkS (gapB y) = ⟨#[32]⟩) := Lib.hid (by unfold gapB; rw [if_pos hp]; rfl)
          clear hp
          go_wp2_with fail
          go_meet
          exact ⟨by rw [HG.out], Lib.hid (bel_alloc HW.out _)⟩
        · have hb1 : Go.bits .and .i64 (y : Int) 1 = 1 := by rw [and_1 y (by omega), hp]; rfl
          have HG : Hid (mkS (gapB y) = ⟨#[9, 32, 32]⟩) := Lib.hid (by unfold gapB; rw [if_neg (by omega)]; rfl)
          clear hp
          go_wp2_with fail
          go_meet
          exact ⟨by rw [HG.out], Lib.hid (bel_alloc HW.out _)⟩
      case rest =>
        obtain ⟨rfl, HW2⟩ := hcut
        clear HW
        go_upto_region 8 with fail
        go_cut [8] (fun v8 wx => v8 = .string (mkS (endB y)) ∧ Hid (Below w.heap.size w wx))
        case first =>
          rcases Nat.mod_two_eq_zero_or_one (y / 2) with hp | hp
          · have hb1 : Go.bits .and .i64 ((y : Int) / 2) 1 = 0 := by rw [show (y : Int) / 2 = ((y / 2 : Nat) : Int) by omega, and_1 (y / 2) (by omega), hp]; rfl
            have HG : Hid (mkS (endB y) = ⟨#[10]⟩) := Lib.hid (by unfold endB; rw [if_pos hp]; rfl)
            clear hp
            go_wp2_with fail
            go_meet
            exact ⟨by rw [HG.out], Lib.hid (bel_alloc HW2.out _)⟩
          · have hb1 : Go.bits .and .i64 ((y : Int) / 2) 1 = 1 := by rw [show (y : Int) / 2 = ((y / 2 : Nat) : Int) by omega, and_1 (y / 2) (by omega), hp]; rfl
            have HG : Hid (mkS (endB y) = ⟨#[32, 35, 32, 120, 13, 10]⟩) := Lib.hid (by unfold endB; rw [if_neg (by omega)]; rfl)
            clear hp
            go_wp2_with fail
            go_meet
            exact ⟨by rw [HG.out], Lib.hid (bel_alloc HW2.out _)⟩
        case rest =>
          obtain ⟨rfl, HW3⟩ := hcut
          clear HW2
          have hcx := HC9.out.below HW3.out
          have hg := gap_len y
          have hen := end_len y
          have hs1 := spelt_len HIs.out.1 (decide (y / 4 = 1))
          have hs2 := spelt_len HIs.out.2.1 (decide (y / 4 = 1))
          have hs3 := spelt_len HIs.out.2.2 (decide (y / 4 = 1))
          have HI1 := Lib.hid (fun p : QT.Bel wc => spelt_calls x.s HIs.out.1 (decide (y / 4 = 1)) p.w)
          have HI2 := Lib.hid (fun p : QT.Bel wc => spelt_calls x.p HIs.out.2.1 (decide (y / 4 = 1)) p.w)
          have HI3 := Lib.hid (fun p : QT.Bel wc => spelt_calls x.o HIs.out.2.2 (decide (y / 4 = 1)) p.w)
          obtain ⟨G, hG⟩ : ∃ G, G = gapB y := ⟨_, rfl⟩
          obtain ⟨E, hE⟩ : ∃ E, E = endB y := ⟨_, rfl⟩
          obtain ⟨X1, hX1⟩ : ∃ X1, X1 = spelt (decide (y / 4 = 1)) x.s := ⟨_, rfl⟩
          obtain ⟨X2, hX2⟩ : ∃ X2, X2 = spelt (decide (y / 4 = 1)) x.p := ⟨_, rfl⟩
          obtain ⟨X3, hX3⟩ : ∃ X3, X3 = spelt (decide (y / 4 = 1)) x.o := ⟨_, rfl⟩
          have HLn : Hid (lineW y x = G ++ (X1 ++ (G ++ (X2 ++ (G ++ (X3 ++ (G ++ 46 :: E))))))) := Lib.hid (by rw [hG, hE, hX1, hX2, hX3]; rfl)
          rw [← hX1] at HI1 hs1
          rw [← hX2] at HI2 hs2
          rw [← hX3] at HI3 hs3
          rw [← hG] at hg
          rw [← hE] at hen
          rw [← hG, ← hE]
          clear hG hE hX1 hX2 hX3
          obtain ⟨al, hal⟩ : ∃ al, al = decide (y / 4 = 1) := ⟨_, rfl⟩
          rw [← hal] at HI1 HI2 HI3
          have hal' : ((y : Int) / 4 == 1) = al := by
            rw [hal]
            by_cases h : y / 4 = 1
            · rw [decide_eq_true h, beq_iff_eq]; omega
            · rw [decide_eq_false h, beq_eq_false_iff_ne]; omega
          clear hal
          obtain ⟨L1, g1⟩ : ∃ L, L = out ++ G := ⟨_, rfl⟩
          obtain ⟨L2, g2⟩ : ∃ L, L = L1 ++ X1 := ⟨_, rfl⟩
          obtain ⟨L3, g3⟩ : ∃ L, L = L2 ++ G := ⟨_, rfl⟩
          obtain ⟨L4, g4⟩ : ∃ L, L = L3 ++ X2 := ⟨_, rfl⟩
          obtain ⟨L5, g5⟩ : ∃ L, L = L4 ++ G := ⟨_, rfl⟩
          obtain ⟨L6, g6⟩ : ∃ L, L = L5 ++ X3 := ⟨_, rfl⟩
          obtain ⟨L7, g7⟩ : ∃ L, L = L6 ++ G := ⟨_, rfl⟩
          obtain ⟨L8, g8⟩ : ∃ L, L = L7 ++ [46] := ⟨_, rfl⟩
          obtain ⟨L9, g9⟩ : ∃ L, L = L8 ++ E := ⟨_, rfl⟩
          have HOut : Hid (L9 = headB ++ (l.take (k + 1)).flatMap (lineW y)) := Lib.hid (by
            rw [HNx.out, ← List.append_assoc, ← HO.out, HLn.out, g9, g8, g7, g6, g5, g4, g3, g2, g1]
            simp)
          have a1 := app_to g1
          have a2 := app_to g2
          have a3 := app_to g3
          have a4 := app_to g4
          have a5 := app_to g5
          have a6 := app_to g6
          have a7 := app_to g7
          have a8 : mkS L7 ++ (⟨#[46]⟩ : ByteArray) = mkS L8 := app_to g8
          have a9 := app_to g9
          have n1 : L1.length = out.length + G.length := by rw [g1]; simp
          have n2 : L2.length = L1.length + X1.length := by rw [g2]; simp
          have n3 : L3.length = L2.length + G.length := by rw [g3]; simp
          have n4 : L4.length = L3.length + X2.length := by rw [g4]; simp
          have n5 : L5.length = L4.length + G.length := by rw [g5]; simp
          have n6 : L6.length = L5.length + X3.length := by rw [g6]; simp
          have n7 : L7.length = L6.length + G.length := by rw [g7]; simp
          have n8 : L8.length = L7.length + 1 := by rw [g8]; simp
          have n9 : L9.length = L8.length + E.length := by rw [g9]; simp
          have HL9 : Hid (L9.length ≤ 13 + 2200 * (k + 1)) := Lib.hid (by omega)
          have hob : out.length ≤ 44013 := by omega
          have b1 : L1.length ≤ 48000 := by omega
          have b2 : L2.length ≤ 48000 := by omega
          have b3 : L3.length ≤ 48000 := by omega
          have b4 : L4.length ≤ 48000 := by omega
          have b5 : L5.length ≤ 48000 := by omega
          have b6 : L6.length ≤ 48000 := by omega
          have b7 : L7.length ≤ 48000 := by omega
          have b8 : L8.length ≤ 48000 := by omega
          clear g1 g2 g3 g4 g5 g6 g7 g8 g9 n1 n2 n3 n4 n5 n6 n7 n8 n9 hol HC9
          have zG := mkS_size G
          have zE := mkS_size E
          have zX1 := mkS_size X1
          have zX2 := mkS_size X2
          have zX3 := mkS_size X3
          have z1 := mkS_size L1
          have z2 := mkS_size L2
          have z3 := mkS_size L3
          have z4 := mkS_size L4
          have z5 := mkS_size L5
          have z6 := mkS_size L6
          have z7 := mkS_size L7
          have z8 := mkS_size L8
          have x0 := fun p => (hcx.bel p).c0
          have x1 := fun p => (hcx.bel p).c1
          have x2 := fun p => (hcx.bel p).c2
          have x3 := fun p => (hcx.bel p).c3
          have x4 := fun p => (hcx.bel p).c4
          have x5 := fun p => (hcx.bel p).c5
          have x6 := fun p => (hcx.bel p).c6
          have x7 := fun p => (hcx.bel p).c7
          have x8 := fun p => (hcx.bel p).c8
          obtain ⟨⟨sk, sx, se⟩, ⟨pk, px, pe⟩, ⟨ok, ox, oe⟩⟩ := x
          unfold Ref5.termV at HI1 HI2 HI3
          dsimp only at x0 x1 x2 x3 x4 x5 x6 x7 x8 HI1 HI2 HI3
          go_upto_region 9 with fail
          refine QT.region_all (by kernel_rfl) (by kernel_rfl) ?_
          iterate 11 (go_big_quiet_step (fail))
          go_big_quiet_step (exact QT.Bel.call _ (HI1.out _))
          iterate 11 (go_big_quiet_step (fail))
          go_big_quiet_step (exact QT.Bel.call _ (HI2.out _))
          iterate 11 (go_big_quiet_step (fail))
          go_big_quiet_step (exact QT.Bel.call _ (HI3.out _))
          iterate 7 (go_big_quiet_step (fail))
          refine wpQuiet_nil ?_
          intro w5 hw'
          obtain ⟨⟨_, hb⟩, rfl⟩ := hw'
          have HW5 := Lib.hid (bel_step HW3.out hb)
          clear hb x0 x1 x2 x3 x4 x5 x6 x7 x8 hcx a1 a2 a3 a4 a5 a6 a7 a8 a9 HI1 HI2 HI3
          go_wp2
          go_roundw
          case rel => exact ⟨k + 1, L9, by omega, by go_num, rfl, HL9.out, HOut, HW5⟩
          case measure => simp [intOf]; omega
    · have hd : decide (k < l.length) = false := decide_eq_false hlt
      obtain rfl : k = l.length := by omega
      have hol2 : out.length ≤ 44013 := by omega
      have HOut : Hid (out = headB ++ l.flatMap (lineW y)) := Lib.hid (by rw [HO.out, List.take_length])
      clear hlt hd hol
      by_cases hbig : 20000 < out.length
      · go_wp2
        go_ret
        exact ⟨rfl, HW.out⟩
      have HPc := Lib.hid (parse_calls out (by omega) wr (HE.out.below HW.out))
      rw [show parse out = (sortT l, 2 + l.length, 0) by rw [HOut.out]; exact spell_parse y l HV.out hl20 (by rw [← HOut.out]; omega)] at HPc
      go_wp2_with fail
      refine HPc.out.mono ?_
      rintro e w5 ⟨A5, c5, rfl, hM5, hb⟩
      have HB5 := Lib.hid (bel_step HW.out hb)
      have HM5 := Lib.hid hM5
      have HRef := Lib.hid (refsort_calls l A c w5 (HROW.out w5 HB5.out) HSm.out (by omega))
      clear hb HPc hM5
      dsimp only at *
      have hsum : ((2 + l.length : Nat) : Int) = (l.length : Int) + 2 := by omega
      rw [hsum]
      clear hsum
      obtain ⟨s, hs⟩ : ∃ s, s = sortT l := ⟨_, rfl⟩
      rw [← hs] at HM5 HRef
      rw [← hs]
      clear hs
      go_wp2_with fail
      refine HRef.out.mono ?_
      rintro e w6 ⟨A6, c6, rfl, hM6, hb⟩
      have HB6 := Lib.hid (bel_step HB5.out hb)
      have HSame := Lib.hid (same_calls s s A5 A6 c5 c6 w6 (Kd.M_bound (Kd.M_below HM5.out hb)) (Kd.M_bound hM6))
      rw [decide_eq_true rfl] at HSame
      clear hb HRef hM6
      go_wp2_with fail
      refine HSame.out.mono ?_
      rintro e w7 ⟨rfl, hb⟩
      have HB7 := Lib.hid (bel_step HB6.out hb)
      have HK := Lib.hid (Known.known_calls w7 (HE.out.below HB7.out))
      clear hb HSame
      go_wp2_with fail
      refine HK.out.mono ?_
      rintro e w8 ⟨rfl, hb⟩
      have HB8 := Lib.hid (bel_step HB7.out hb)
      clear hb HK
      go_wp2
      go_ret
      exact ⟨rfl, HB8.out⟩
theorem walk (w : World) (he : Env w) (l : List Triple) (v : Value) (ml : triK.sl.M w (fun _ => True) l [v]) (n : Int) (hn : -9223372036854775808 ≤ n ∧ n ≤ 9223372036854775807) :
    Calls Tryz.prog 7 #[v, .int .i64 n] w fun e w' => e = .returned (.bool true) ∧ Below w.heap.size w w' := by
  obtain ⟨A, c, hv, h⟩ := id ml
  obtain rfl : v = .slice A l.length c := by simpa using hv
  exact walk0 w he l A c (triK.sl.mono (fun k _ hk => hk) ml) n hn
end Go.Proofs.YtmcoloapiiakbaaGreatDoor.LSpell
/-
  What a row that lists Go's tables gives; a world that fits it.
-/
set_option linter.unusedVariables false
set_option linter.unusedSimpArgs false
namespace Go.Proofs.YtmcoloapiiakbaaGreatDoor.Card
open Go.Lib Go.Proofs Go.Proofs.YtmcoloapiiakbaaGreatDoor.Env

theorem laidMet_turn {P : Program} {w : World} {n1 n2 n3 : String} {d1 d2 d3 : DataW Unit} (h : laidMet P [(n1, d1), (n2, d2), (n3, d3)] w) : laidMet P [(n1, d1), (n3, d3), (n2, d2)] w := by
  obtain ⟨ps, hv, hn, hall⟩ := h
  obtain ⟨g1, t1, c1, f1, p1, q1, a1, a2, a3, a4, ⟨g2, t2, c2, f2, p2, q2, b1, b2, b3, b4, ⟨g3, t3, c3, f3, p3, q3, e1, e2, e3, e4, he, rfl⟩, rfl⟩, rfl⟩ := hv
  obtain rfl : q3 = [] := he
  simp only [List.append_nil] at hn hall
  refine ⟨_, ⟨g1, t1, c1, f1, p1, _, a1, a2, a3, a4, ⟨g3, t3, c3, f3, p3, _, e1, e2, e3, e4, ⟨g2, t2, c2, f2, p2, [], b1, b2, b3, b4, rfl, rfl⟩, rfl⟩, rfl⟩, ?_, ?_⟩
  · simp only [List.append_nil]
    refine (List.Perm.nodup_iff ?_).1 hn
    first
      | exact List.Perm.append_left _ List.perm_append_comm
      | (simp only [List.append_assoc]; refine List.Perm.append_left _ ?_; simp only [← List.append_assoc]; refine (List.Perm.append_right _ List.perm_append_comm).trans ?_; simp)
      | (simp only [← List.append_assoc]; exact List.Perm.append_left _ List.perm_append_comm)
      | skip
  · intro b off hb
    refine hall b off ?_
    simp only [List.append_nil, List.mem_append] at hb ⊢
    rcases hb with h | h
    · first | exact .inl h | (rcases h with h | h <;> simp [h])
    · first | (rcases h with h | h <;> simp [h]) | simp [h]

/-- The listed variables, by the given names. -/
def laidG : List (String × DataW Unit) := [("unicode/utf8.acceptRanges", Rows.laid_unicode_utf8_acceptRanges), ("unicode.CaseRanges", Rows.laid_unicode_CaseRanges), ("unicode/utf8.first", Rows.laid_unicode_utf8_first)]
def laid3 : List (String × DataW Unit) := [("unicode/utf8.acceptRanges", Lib.acceptData), ("unicode.CaseRanges", Lib.caseData), ("unicode/utf8.first", Lib.firstData)]
theorem accept_eq : (Rows.laid_unicode_utf8_acceptRanges : DataW Unit) = Lib.acceptData := by kernel_rfl
theorem laid_eq : laidG = laid3 := by
  unfold laidG laid3 Rows.laid_unicode_CaseRanges Rows.laid_unicode_utf8_first
  rw [accept_eq, Pinned.caseRanges_eq, Pinned.utf8First_eq]
theorem u8 : U8Extra Tryz.prog Tryz.lays159_ren := ⟨by kernel_rfl, by kernel_rfl, by kernel_rfl, by kernel_rfl, by kernel_rfl, by kernel_rfl, by kernel_rfl⟩
theorem case' : CaseExtra Tryz.prog Tryz.lays159_ren := ⟨by kernel_rfl, by kernel_rfl, by kernel_rfl, by kernel_rfl, by kernel_rfl, by kernel_rfl⟩
theorem env_of {W : World} (h : laidMet Tryz.prog laidG W) (hsh : W.ShapedOpen Tryz.prog) : Env W := by
  rw [laid_eq] at h
  exact ⟨utf8Tabs_of_reads { Tryz.lays159 with } u8 (Lib.laidMet.reads h (.tail _ (.tail _ (.head _)))) (Lib.laidMet.reads h (.head _)), Tryz.laysM219.s1_3 W hsh⟩
/-- The settled world with one block more; the three variables hold what their initialisers lay. -/
noncomputable def laidWorld (os : Os) : World :=
  let N := (World.settled Tryz.prog os).heap.size
  let w0 := World.holding Tryz.prog os ⟨#[.cells Lib.caseCells5 (Tryz.lays159_ren.t 208)], #[], []⟩
  let put (h : Array Obj) (g : Nat) (cs : Array Value) : Array Obj := h.modify g fun
    | .cells _ t frozen => .cells cs t frozen
    | o => o
  let h2 := put w0.heap (Tryz.lays159_ren.g 3) (Lib.firstTab.map fun z => Value.int .u8 z).toArray
  let h3 := put h2 (Tryz.lays159_ren.g 4) ((List.range 16).flatMap fun i => [Value.int .u8 (Lib.accLo i), Value.int .u8 (Lib.accHi i)]).toArray
  let h5 := put h3 (Tryz.lays159_ren.g 13) #[.slice (some ⟨N, 0, none⟩) 336 336]
  { w0 with heap := h5 }
theorem laid_met3 (os : Os) (args : Array Value) : laidMet Tryz.prog [("unicode/utf8.acceptRanges", Lib.acceptData), ("unicode/utf8.first", Lib.firstData), ("unicode.CaseRanges", Lib.caseData)] ((laidWorld os).forCall (fun _ _ => 0) ⟨#[], args, []⟩).memory :=
  laidMet_with_case (ρ := Tryz.lays159_ren) { Tryz.lays159 with } Tryz.lays159.t206 case'
    (l := [("unicode/utf8.acceptRanges", Lib.acceptData), ("unicode/utf8.first", Lib.firstData)])
    10 (by kernel_rfl) (by kernel_rfl) (by kernel_rfl) ((World.settled Tryz.prog default).heap.size) (Tryz.lays159_ren.t 208) (of_decide_eq_true (by kernel_rfl)) (by kernel_rfl) (by kernel_rfl) (by kernel_rfl)
theorem laid_met (os : Os) (args : Array Value) : laidMet Tryz.prog laidG ((laidWorld os).forCall (fun _ _ => 0) ⟨#[], args, []⟩).memory := by
  rw [laid_eq]
  exact laidMet_turn (laid_met3 os args)
end Go.Proofs.YtmcoloapiiakbaaGreatDoor.Card
