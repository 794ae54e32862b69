/-
  The law BoxLong.
-/
import Derived.Test.YtimjllokibnibaaBoxLaws2
import Derived.RegionTactic
import Derived.Deep.OwnRows
import Derived.Deep.DeepCutAuto
set_option linter.unusedVariables false
set_option linter.unusedSimpArgs false
namespace Go.Proofs.Ytimjllokibnibaa.BoxLen
open Go.RowKit Go.Proofs.Ytimjllokibnibaa.CrcPure Go.Proofs.Ytimjllokibnibaa.BoxPure Go.Proofs.Ytimjllokibnibaa.B Go.Proofs.Ytimjllokibnibaa.CrcWalk Go.Proofs.Ytimjllokibnibaa.CrcLaws Go.Proofs.Ytimjllokibnibaa.BoxWalk Go.Proofs.Ytimjllokibnibaa.BoxPack Go.Proofs.Ytimjllokibnibaa.BoxRef Go.Proofs.Ytimjllokibnibaa.BoxUnpack Go.Proofs.Ytimjllokibnibaa.BoxRefUn Go.Proofs.Ytimjllokibnibaa.BoxSmall Go.Proofs.Ytimjllokibnibaa.BoxLaws

def zs (n : Nat) : List UInt8 := List.replicate n 0
theorem zs_length (n : Nat) : (zs n).length = n := List.length_replicate
/-- One section, or two. -/
theorem may_one (n : Nat) : May [(1, zs n)] ↔ n ≤ 99984 := by
  rw [may_iff]
  simp [rising, total, zs_length]
  omega
theorem may_two (n m : Nat) : May [(1, zs n), (255, zs m)] ↔ n + m ≤ 99977 := by
  rw [may_iff]
  simp [rising, total, zs_length]
  omega

theorem made_sl {W : World} {g n : Nat} (h : Kd.bi W g (madeCells #[.int .u8 0] n)) (hn : n ≤ 200000) : byteK.sl.M W T (zs n) [.slice (some ⟨g, 0, none⟩) n n] := by
  have := Kd.u8_sl (l := zs n) (A := some ⟨g, 0, none⟩) (c := n) (by rw [zs_length]; omega) (by rw [zs_length]; unfold maxLen; omega) (fun h => by cases h) (Kd.row_u8 (ok := T) h trivial (by
    rw [toList_madeCells_one]
    simp [zs]))
  rwa [zs_length] at this
theorem one_sec {W : World} {g : Nat} {i : Int} {v : Value} {b : List UInt8} (h : Kd.bi W g #[.int .i64 i, v]) (hM : byteK.sl.M W T b [v]) (hi : 0 ≤ i ∧ i ≤ 255 := by omega) :
    secK.sl.M W T [(i, b)] [.slice (some ⟨g, 0, none⟩) 1 1] := by
  have hR : secK.row W T (some ⟨g, 0, none⟩) [(i, b)] :=
    Kd.row_one (d := secK) h trivial (show secK.M W _ (i, b) [.int .i64 i, v] from ⟨[.int .i64 i], [v], rfl, ⟨rfl, by dsimp only; omega⟩, hM⟩)
  exact ⟨_, 1, rfl, by simp, ⟨by simp, by simp [maxLen]⟩, (fun h => by cases h), hR⟩
theorem two_sec {W : World} {g : Nat} {i j : Int} {u v : Value} {a b : List UInt8} (h : Kd.bi W g #[.int .i64 i, u, .int .i64 j, v]) (hM : byteK.sl.M W T a [u]) (hN : byteK.sl.M W T b [v]) (hi : (0 ≤ i ∧ i ≤ 255) ∧ 0 ≤ j ∧ j ≤ 255 := by omega) :
    secK.sl.M W T [(i, a), (j, b)] [.slice (some ⟨g, 0, none⟩) 2 2] := by
  have hR : secK.row W T (some ⟨g, 0, none⟩) [(i, a), (j, b)] :=
    Kd.row_two (d := secK) (c1 := [.int .i64 i, u]) (c2 := [.int .i64 j, v]) h trivial rfl (show secK.M W _ (i, a) [.int .i64 i, u] from ⟨[.int .i64 i], [u], rfl, ⟨rfl, by dsimp only; omega⟩, hM⟩)
      (show secK.M W _ (j, b) [.int .i64 j, v] from ⟨[.int .i64 j], [v], rfl, ⟨rfl, by dsimp only; omega⟩, hN⟩)
  exact ⟨_, 2, rfl, by simp, ⟨by simp, by simp [maxLen]⟩, (fun h => by cases h), hR⟩

set_option maxRecDepth 100000 in
set_option maxHeartbeats 3200000 in
theorem longs (w : World) (n : Int) (hn : -9223372036854775808 ≤ n ∧ n ≤ 9223372036854775807) (two : Bool) :
    Calls Try.prog 16 #[.int .i64 n, .bool two] w fun e w' => e = .returned (.bool true) ∧ Below w.heap.size w w' := by
  clear hn
  by_cases c0 : n < -20
  · have d0 : decide (n < -20) = true := decide_eq_true c0
    go_enter Try.func16, Try.ntmps16
    go_wp2
    go_ret
    exact ⟨rfl, Below.refl _ _⟩
  have d0 : decide (n < -20) = false := decide_eq_false c0
  by_cases c1 : 20 < n
  · have d1 : decide (20 < n) = true := decide_eq_true c1
    go_enter Try.func16, Try.ntmps16
    go_wp2
    go_ret
    exact ⟨rfl, Below.refl _ _⟩
  have d1 : decide (20 < n) = false := decide_eq_false c1
  obtain ⟨N, hN⟩ : ∃ N : Nat, 99984 + n = (N : Int) := ⟨(99984 + n).toNat, by omega⟩
  have wN : IntKind.i64.wrap (99984 + n) = (N : Int) := by rw [← hN, IntKind.wrap_i64]; omega
  have hNl : 99964 ≤ N ∧ N ≤ 100004 := by omega
  have hmk := run_make_row' (P := Try.prog) 22 5 (.int .u8 0) 1 Try.underlying22 info_u8 rfl .i64 .i64 N (by omega) (by omega)
  have HMay : Hid (May [(1, zs N)] ↔ n ≤ 0) := Lib.hid (by rw [may_one]; omega)
  have HLen : Hid (((file [(1, zs N)]).length : Int) = 100000 + n) := Lib.hid (by rw [file_length]; simp [total, zs_length]; omega)
  go_enter Try.func16, Try.ntmps16
  go_upto_if 23 with fail
  go_cut [6] (fun v6 wx => ∃ (l : List Sec) (A : Option Addr) (c : Nat), v6 = .slice A l.length c ∧ Hid (secK.sl.M wx T l [.slice A l.length c]) ∧ Hid (May l ↔ n ≤ 0) ∧ Hid (((file l).length : Int) = 100000 + n) ∧ Hid (Below w.heap.size w wx))
  case first =>
    have HB := Lib.hid (bel_alloc (bel_alloc (Below.refl w.heap.size w) (.cells (madeCells #[.int .u8 0] N) 5)) (.cells #[.int .i64 1, .slice (some ⟨w.heap.size, 0, none⟩) N N] 42))
    cases two with
    | false =>
      go_wp2_with fail
      go_meet
      exact ⟨[(1, zs N)], _, 1, rfl, Lib.hid (one_sec (by repeat (first | exact Kd.bi_new (by simp) | refine Kd.bi_old ?_)) (made_sl (by repeat (first | exact Kd.bi_new (by simp) | refine Kd.bi_old ?_)) (by omega))), HMay, HLen, HB⟩
    | true =>
      obtain ⟨M, hM⟩ : ∃ M : Nat, (N : Int) - 1000 - 7 = (M : Int) := ⟨N - 1007, by omega⟩
      have w1 : IntKind.i64.wrap ((N : Int) - 1000) = (N : Int) - 1000 := by rw [IntKind.wrap_i64]; omega
      have w2 : IntKind.i64.wrap ((N : Int) - 1000 - 7) = (M : Int) := by rw [hM, IntKind.wrap_i64]; omega
      have hmM := run_make_row' (P := Try.prog) 22 5 (.int .u8 0) 1 Try.underlying22 info_u8 rfl .i64 .i64 M (by omega) (by omega)
      have hm1 : ∀ w : World, (Instr.makeSlice 22 (.int .i64 1000) (.int .i64 1000)).run Try.prog w = .ok (.slice (some ⟨w.heap.size, 0, none⟩) 1000 1000) (w.alloc (.cells (madeCells #[.int .u8 0] 1000) 5)) :=
        fun w => run_make_row' (P := Try.prog) 22 5 (.int .u8 0) 1 Try.underlying22 info_u8 rfl .i64 .i64 1000 (by decide) (by decide) w
      have HMay2 : Hid (May [(1, zs M), (255, zs 1000)] ↔ n ≤ 0) := Lib.hid (by rw [may_two]; omega)
      have HLen2 : Hid (((file [(1, zs M), (255, zs 1000)]).length : Int) = 100000 + n) := Lib.hid (by rw [file_length]; simp [total, zs_length]; omega)
      have HS : Hid (∀ (W : World) (g : Nat), Kd.bi W g (madeCells #[.int .u8 0] 1000) → byteK.sl.M W T (zs 1000) [.slice (some ⟨g, 0, none⟩) 1000 1000]) := Lib.hid (fun W g h => made_sl h (by omega))
      clear HMay HLen
      generalize zs 1000 = z1 at *
      generalize madeCells #[.int .u8 0] 1000 = C1 at *
      have HB' := HB.out
      go_wp2_with fail
      go_region
      all_goals clear hmk hmM hm1
      all_goals go_wp2_with fail
      all_goals go_meet
      all_goals refine ⟨[(1, zs M), (255, z1)], _, 2, rfl, Lib.hid (two_sec (by repeat (first | exact Kd.bi_new (by simp) | refine Kd.bi_old ?_ | refine Kd.bi_drew ?_)) (made_sl (by repeat (first | exact Kd.bi_new (by simp) | refine Kd.bi_old ?_ | refine Kd.bi_drew ?_)) (by omega)) (HS.out _ _ (by repeat (first | exact Kd.bi_new (by simp) | refine Kd.bi_old ?_ | refine Kd.bi_drew ?_)))), HMay2, HLen2, Lib.hid ?_⟩
      all_goals exact bel_drew (bel_alloc (bel_alloc (bel_alloc HB' _) _) _)
  case rest =>
    obtain ⟨l, A, c, rfl, HM, HMay, HLen, HB⟩ := hcut
    clear hmk hN wN
    have wn : IntKind.i64.wrap (100000 + n) = 100000 + n := by rw [IntKind.wrap_i64]; omega
    have HP := Lib.hid (pack_calls l _ wc HM.out)
    by_cases hn : n ≤ 0
    · have d3 : decide (0 < n) = false := decide_eq_false (by omega)
      have hMay := HMay.out.2 hn
      have hMn : ¬ ¬ May l := fun h => h hMay
      have hMc := Lib.hid hMay
      clear hMay
      go_wp2_with fail
      refine HP.out.mono ?_
      clear HP
      rintro e w2 ⟨hb2, ⟨_, vp, rfl, hop⟩ | ⟨hN', _⟩⟩
      · have HB2 := Lib.hid (bel_step HB.out hb2)
        have HU := Lib.hid (unpack_calls (file l) vp w2 (Kd.own_sl hop (fun _ _ => trivial) (fun _ _ => trivial)))
        obtain ⟨Ap, cp, rfl, _, _⟩ := Kd.own_slice hop
        have e9 : (((file l).length : Int) == 100000 + n) = true := by rw [beq_iff_eq]; exact HLen.out
        have HUF := Lib.hid (fun (w w' : World) (e : Ending) => un_file hMc.out (w := w) (w' := w') (e := e))
        clear hop hb2 HLen HMay
        generalize file l = fl at *
        go_wp2_with fail
        refine HU.out.mono ?_
        clear HU
        rintro e w3 hu
        obtain ⟨hb3, va, rfl, hoa⟩ := HUF.out _ _ _ hu
        have HB3 := Lib.hid (bel_step HB2.out hb3)
        obtain ⟨Aa, ca, rfl, _, _⟩ := Kd.own_slice hoa
        clear hu hb3 hoa
        go_wp2_with fail
        refine (BoxSmall.known_calls _).mono ?_
        rintro e w9 ⟨rfl, hb9⟩
        have HB9 := Lib.hid (bel_step HB3.out hb9)
        clear hb9
        go_wp2_with fail
        go_ret
        exact ⟨rfl, HB9.out⟩
      · exact absurd hN' hMn
    · have d3 : decide (0 < n) = true := decide_eq_true (by omega)
      have hMay : ¬ May l := fun h => hn (HMay.out.1 h)
      go_wp2_with fail
      refine HP.out.mono ?_
      clear HP
      rintro e w2 ⟨hb2, ⟨hM', _⟩ | ⟨_, rfl⟩⟩
      · exact absurd hM' hMay
      · have HB2 := Lib.hid (bel_step HB.out hb2)
        clear hb2
        go_wp2_with fail
        refine (BoxSmall.known_calls _).mono ?_
        rintro e w9 ⟨rfl, hb9⟩
        have HB9 := Lib.hid (bel_step HB2.out hb9)
        clear hb9
        go_wp2_with fail
        go_ret
        exact ⟨rfl, HB9.out⟩
end Go.Proofs.Ytimjllokibnibaa.BoxLen
