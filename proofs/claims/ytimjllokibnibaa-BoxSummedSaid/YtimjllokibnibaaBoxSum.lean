/-
  The law BoxSummed.
-/
import Derived.Test.YtimjllokibnibaaBoxLaws2
set_option linter.unusedVariables false
set_option linter.unusedSimpArgs false
namespace Go.Proofs.Ytimjllokibnibaa.BoxSum
open Go.RowKit Go.Proofs.Ytimjllokibnibaa.CrcPure Go.Proofs.Ytimjllokibnibaa.BoxPure Go.Proofs.Ytimjllokibnibaa.B Go.Proofs.Ytimjllokibnibaa.CrcWalk Go.Proofs.Ytimjllokibnibaa.CrcLaws Go.Proofs.Ytimjllokibnibaa.BoxWalk Go.Proofs.Ytimjllokibnibaa.BoxPack Go.Proofs.Ytimjllokibnibaa.BoxRef Go.Proofs.Ytimjllokibnibaa.BoxUnpack Go.Proofs.Ytimjllokibnibaa.BoxRefUn Go.Proofs.Ytimjllokibnibaa.BoxSmall Go.Proofs.Ytimjllokibnibaa.BoxLaws

set_option maxHeartbeats 1600000 in
theorem summed (w : World) (n : Int) (hn : -9223372036854775808 ≤ n ∧ n ≤ 9223372036854775807) (hs : List UInt8) (v1 : Value) (m1 : byteK.sl.M w T hs [v1]) (bs : List UInt8) (v2 : Value) (m2 : byteK.sl.M w T bs [v2]) :
    Calls Try.prog 14 #[.int .i64 n, v1, v2] w fun e w' => e = .returned (.bool true) ∧ Below w.heap.size w w' := by
  have HM1 := Lib.hid m1
  have HM2 := Lib.hid m2
  obtain ⟨A1, c1, hv, h1, h2, h3, hr⟩ := m1
  simp at hv
  subst hv
  obtain ⟨A2, c2, hv, g1, g2, g3, gr⟩ := m2
  simp at hv
  subst hv
  clear h2 hr g2 gr
  by_cases q1 : n < 0
  · have d1 : decide (n < 0) = true := decide_eq_true q1
    go_enter Try.func14, Try.ntmps14
    go_wp2
    go_ret
    exact ⟨rfl, Below.refl _ _⟩
  · obtain ⟨k, rfl⟩ : ∃ k : Nat, n = (k : Int) := ⟨n.toNat, by omega⟩
    have d1 : decide ((k : Int) < 0) = false := decide_eq_false q1
    by_cases q2 : 20 < k
    · have d2 : decide (20 < (k : Int)) = true := decide_eq_true (by omega)
      clear hn
      go_enter Try.func14, Try.ntmps14
      go_wp2
      go_ret
      exact ⟨rfl, Below.refl _ _⟩
    · have d2 : decide (20 < (k : Int)) = false := decide_eq_false (by omega)
      have w7 : IntKind.i64.wrap (7 * (k : Int)) = ((7 * k : Nat) : Int) := by rw [IntKind.wrap_i64]; omega
      clear hn
      by_cases q3 : hs.length = 7 * k
      · have d3 : ((hs.length : Int) != ((7 * k : Nat) : Int)) = false := by rw [q3]; simp
        have hl : hs.length ≤ 140 := by omega
        clear q3
        generalize 7 * k = k7 at *
        by_cases q4 : 500 < bs.length
        · have d4 : decide (500 < (bs.length : Int)) = true := decide_eq_true (by omega)
          go_enter Try.func14, Try.ntmps14
          go_wp2
          go_ret
          exact ⟨rfl, Below.refl _ _⟩
        · have d4 : decide (500 < (bs.length : Int)) = false := decide_eq_false (by omega)
          have kc := fun (w : World) (C : Array Value) (n c : Nat) => Lib.run_convert_bytes_const (P := Try.prog) w 22 5 C n c Try.underlying22 Try.underlying5
          have HY : Hid ((k : Int) = ((UInt8.ofNat k).toNat : Int)) := Lib.hid (by rw [UInt8.toNat_ofNat']; omega)
          have wk : IntKind.u8.wrap (k : Int) = (k : Int) := by rw [IntKind.wrap_u8]; omega
          go_enter Try.func14, Try.ntmps14
          go_wp2_with (at_builtin; first
            | (refine Kd.own_grow byteK rfl (.tmp 33) (.tmp 36) 22 5 (.int .u8 0) 1 rfl Try.underlying22 info_u8 rfl (by decide) [84, 82, 73, 86, 1] [UInt8.ofNat k] (some ⟨w.heap.size, 0, none⟩) (some ⟨w.heap.size + 1, 0, none⟩) 5 1 T rfl rfl ?hx ?hy (by simp) (by simp) (by simp) ?_; go_loud (case hx => exact Kd.u8_sl (l := [84, 82, 73, 86, 1]) (by simp) (by simp [maxLen]) (fun h => by cases h) (Kd.row_u8 (by repeat (first | exact Kd.bi_new (by simp) | refine Kd.bi_old ?_)) trivial rfl)); go_loud (case hy => exact Kd.u8_sl (l := [UInt8.ofNat k]) (by simp) (by simp [maxLen]) (fun h => by cases h) (Kd.row_u8 (by repeat (first | exact Kd.bi_new (by simp) | refine Kd.bi_old ?_)) trivial (by exact congrArg (fun z : Int => [Value.int .u8 z]) HY.out))); intro v1 w1 ho1 hb1; have HB1 : Hid (Below w.heap.size w w1) := Lib.hid (bel_step (bel_alloc (bel_alloc (Below.refl _ _) _) _) hb1); have HO1 := Lib.hid (Kd.own_lower (base' := w.heap.size) (by simp; omega) ho1); clear ho1 hb1)
            | (go_loud (refine Kd.own_app byteK w.heap.size rfl (.tmp 37) (.tmp 38) 22 5 (.int .u8 0) 1 rfl Try.underlying22 info_u8 rfl (by decide) v1 ([84, 82, 73, 86, 1] ++ [UInt8.ofNat k]) hs A1 c1 T (by simp [Act.eval, Act.put]) (by simp [Act.eval, Act.put]) HO1.out (.inr ⟨Kd.M_below HM1.out HB1.out, any_u8⟩) HB1.out HB1.out.size (by simp; omega) ?_); intro v2 w2 ho2 hb2 hg2 hv2; have HO2 := Lib.hid ho2; have HB2 := Lib.hid hb2; clear ho2 hb2 hg2 hv2)
            | fail)
          clear HO1 HB1 kc
          have hl6 : ([84, 82, 73, 86, 1] ++ [UInt8.ofNat k] ++ hs).length ≤ 146 := by simp; omega
          generalize [84, 82, 73, 86, 1] ++ [UInt8.ofNat k] ++ hs = h at *
          obtain ⟨Ah, ch, hv, f1, f2, f3, fr⟩ := Kd.own_sl (ok' := T) HO2.out (fun _ _ => trivial) (fun _ _ => trivial)
          simp at hv
          subst hv
          have HRw := Lib.hid (ref_calls h Ah ch T w2 (by unfold maxLen; omega) fr)
          clear fr f2
          refine HRw.out.mono ?_
          clear HRw
          rintro e w3 ⟨rfl, rfl⟩
          have hcr := crc_lt h
          generalize crc h = cr at *
          have HE := Lib.hid (Kd.own_sl (ok' := T) (three_own cr hcr w2) (fun _ _ => trivial) (fun _ _ => trivial))
          have HO3 := Lib.hid (Kd.own_alloc HO2.out (.cells #[.int .u8 ((cr : Int) / 65536), .int .u8 ((cr : Int) / 256 % 256), .int .u8 ((cr : Int) % 256)] 5))
          have HB3 := Lib.hid (bel_alloc HB2.out (.cells #[.int .u8 ((cr : Int) / 65536), .int .u8 ((cr : Int) / 256 % 256), .int .u8 ((cr : Int) % 256)] 5))
          have h3l : (three cr).length = 3 := three_length _
          go_wp2_with (at_builtin; first
            | (refine Kd.own_app byteK w.heap.size rfl (.tmp 42) (.tmp 51) 22 5 (.int .u8 0) 1 rfl Try.underlying22 info_u8 rfl (by decide) (.slice Ah h.length ch) h (three cr) (some ⟨w2.heap.size, 0, none⟩) 3 T (by simp [Act.eval, Act.put]) (by simp [Act.eval, Act.put, h3l]) HO3.out (.inr ⟨HE.out, any_u8⟩) HB3.out HB3.out.size (by rw [h3l]; omega) ?_; intro v4 w4 ho4 hb4 hg4 hv4; have HO4 := Lib.hid ho4; have HB4 := Lib.hid hb4; clear ho4 hb4 hg4 hv4)
            | (refine Kd.own_app byteK w.heap.size rfl (.tmp 52) (.tmp 53) 22 5 (.int .u8 0) 1 rfl Try.underlying22 info_u8 rfl (by decide) v4 (h ++ three cr) bs A2 c2 T (by simp [Act.eval, Act.put]) (by simp [Act.eval, Act.put]) HO4.out (.inr ⟨Kd.M_below HM2.out HB4.out, any_u8⟩) HB4.out HB4.out.size (by simp [h3l]; omega) ?_; intro v5 w5 ho5 hb5 hg5 hv5; have HO5 := Lib.hid ho5; have HB5 := Lib.hid hb5; clear ho5 hb5 hg5 hv5)
            | fail)
          clear HO4 HB4 HO3 HB3 HE
          have hl9 : (h ++ three cr ++ bs).length ≤ 5800 := by simp [h3l]; omega
          generalize h ++ three cr ++ bs = b at *
          have HM5 := Lib.hid (Kd.own_sl (ok' := T) HO5.out (fun _ _ => trivial) (fun _ _ => trivial))
          clear HO5
          refine (unpack_calls b v5 w5 HM5.out).mono ?_
          rintro e w6 hu
          obtain ⟨hb6, r, va, hr, rfl, hma, _⟩ := un_cases hu
          have HB6 := Lib.hid (bel_step HB5.out hb6)
          have HMa := Lib.hid hma
          have HRd := Lib.hid hr
          have HM6 := Lib.hid (Kd.M_below HM5.out hb6)
          clear hu hb6 hma hr
          go_wp2_with fail
          refine (refunpack_calls b hl9 _ w6 HM6.out).mono ?_
          rintro e w7 hu
          obtain ⟨hb7, r', vb, hr', rfl, hmb, _⟩ := un_cases hu
          obtain rfl : r' = r := Reads.unique hr' HRd.out
          have HB7 := Lib.hid (bel_step HB6.out hb7)
          have HSm := Lib.hid (same_self _ va vb w7 (Kd.M_below HMa.out hb7) hmb)
          clear hu hb7 hmb hr'
          generalize code r' = cd at *
          go_wp2_with fail
          refine HSm.out.mono ?_
          rintro e w8 ⟨rfl, hb8⟩
          have HB8 := Lib.hid (bel_step HB7.out hb8)
          clear hb8
          go_wp2_with fail
          refine (BoxSmall.known_calls _).mono ?_
          rintro e w9 ⟨rfl, hb9⟩
          have HB9 := Lib.hid (bel_step HB8.out hb9)
          clear hb9
          go_wp2_with fail
          go_ret
          exact ⟨rfl, HB9.out⟩
      · have d3 : ((hs.length : Int) != ((7 * k : Nat) : Int)) = true := by rw [bne_iff_ne]; omega
        clear q3
        generalize 7 * k = k7 at *
        go_enter Try.func14, Try.ntmps14
        go_wp2
        go_ret
        exact ⟨rfl, Below.refl _ _⟩
end Go.Proofs.Ytimjllokibnibaa.BoxSum
