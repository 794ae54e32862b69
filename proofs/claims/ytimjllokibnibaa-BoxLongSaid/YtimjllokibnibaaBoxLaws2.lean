/-
  The laws of box that look at cut and lengthened files, and at files made of parts.
-/
import Derived.Test.YtimjllokibnibaaBoxLaws
set_option linter.unusedVariables false
set_option linter.unusedSimpArgs false
namespace Go.Proofs.Ytimjllokibnibaa.BoxLaws
open Go.RowKit Go.Proofs.Ytimjllokibnibaa.CrcPure Go.Proofs.Ytimjllokibnibaa.BoxPure Go.Proofs.Ytimjllokibnibaa.B Go.Proofs.Ytimjllokibnibaa.CrcWalk Go.Proofs.Ytimjllokibnibaa.CrcLaws Go.Proofs.Ytimjllokibnibaa.BoxWalk Go.Proofs.Ytimjllokibnibaa.BoxPack Go.Proofs.Ytimjllokibnibaa.BoxRef Go.Proofs.Ytimjllokibnibaa.BoxUnpack Go.Proofs.Ytimjllokibnibaa.BoxRefUn Go.Proofs.Ytimjllokibnibaa.BoxSmall

theorem sl_take {w : World} {ok : Nat → Prop} {A : Option Addr} {c i : Nat} {hs : List UInt8} (h : byteK.sl.M w ok hs [.slice A hs.length c]) (hi : i ≤ hs.length) : byteK.sl.M w ok (hs.take i) [.slice A i c] := by
  obtain ⟨A', c', he, h1, h2, h3, h4⟩ := h
  simp at he
  obtain ⟨rfl, rfl⟩ := he
  have hl : (hs.take i).length = i := by simp; omega
  have := Kd.u8_sl (l := hs.take i) (A := A) (c := c) (by omega) (by omega) h3 (Kd.row_take h4 i)
  rwa [hl] at this
theorem cut_none {l : List Sec} (h : May l) {i : Nat} (hi : i < (file l).length) : ∀ l', May l' → file l' ≠ (file l).take i := fun l' h' e => by
  have := (file_prefix h h' (z := (file l).drop i) (by rw [e, List.take_append_drop])).2
  have hl := congrArg List.length this
  rw [List.length_drop] at hl
  simp at hl
  omega
theorem more_none {l : List Sec} (h : May l) (x : UInt8) : ∀ l', May l' → file l' ≠ file l ++ [x] := fun l' h' e => by
  have := (file_prefix h' h (z := [x]) e.symm).2
  cases this

set_option maxHeartbeats 1600000 in
theorem back (w : World) (l : List Sec) (v : Value) (m : secK.sl.M w T l [v]) (at' : Int) (hat : -9223372036854775808 ≤ at' ∧ at' ≤ 9223372036854775807) (by' : UInt8) :
    Calls Try.prog 12 #[v, .int .i64 at', .int .u8 by'.toNat] w fun e w' => e = .returned (.bool true) ∧ Below w.heap.size w w' := by
  have HM := Lib.hid m
  obtain ⟨A, c, hv, h1, h2, h3, hr⟩ := m
  simp at hv
  subst hv
  clear h2 hr
  have h65 := and_65535 at'
  generalize hK : Go.bits .and .i64 at' 65535 = K at *
  go_enter Try.func12, Try.ntmps12
  go_wp2_with fail
  refine (long_calls l _ w HM.out).mono ?_
  rintro e w0 ⟨rfl, rfl⟩
  by_cases hlong : 5000 < total l + 10 * l.length
  · rw [decide_eq_true hlong]
    go_wp2
    go_ret
    exact ⟨rfl, Below.refl _ _⟩
  · rw [decide_eq_false hlong]
    go_wp2_with fail
    refine (may_calls l (by omega) _ T w HM.out).mono ?_
    rintro e w1 ⟨rfl, hb1⟩
    have HB1 := Lib.hid hb1
    by_cases hMay : May l
    · rw [decide_eq_true hMay]
      have hMc := Lib.hid hMay
      have hMn : ¬ ¬ May l := fun h => h hMay
      have HP := Lib.hid (pack_calls l _ w1 (Kd.M_below HM.out hb1))
      clear hMay hb1
      go_wp2_with fail
      refine HP.out.mono ?_
      clear HP
      rintro e w2 ⟨hb2, ⟨_, vp, rfl, hop⟩ | ⟨hN, _⟩⟩
      · have HB2 := Lib.hid (bel_step HB1.out hb2)
        have HO2 := Lib.hid (Kd.own_lower (base' := w.heap.size) HB1.out.size hop)
        clear hb2 hop
        have hpos := file_pos l
        have hlen : (file l).length ≤ 7000 := by rw [file_length]; omega
        have hUF := Lib.hid (fun (w w' : World) (e : Ending) => un_file hMc.out (w := w) (w' := w') (e := e))
        have hC := Lib.hid (fun (i : Nat) (hi : i < (file l).length) => cut_none hMc.out hi)
        have hD := Lib.hid (more_none hMc.out by')
        generalize file l = fl at *
        obtain ⟨g, cap, rfl, hg1, hg2, hcap⟩ := Kd.own_form HO2.out (by omega)
        have hi : K % (fl.length : Int) = ((K % (fl.length : Int)).toNat : Int) := (Int.toNat_of_nonneg (Int.emod_nonneg _ (by omega))).symm
        have hil : (K % (fl.length : Int)).toNat < fl.length := by
          have := Int.emod_lt_of_pos K (show (0 : Int) < (fl.length : Int) by omega)
          omega
        generalize (K % (fl.length : Int)).toNat = i at *
        have hC' := Lib.hid (hC.out i hil)
        have hn0 : ((fl.length : Int) == 0) = false := by rw [beq_eq_false_iff_ne]; omega
        have hicap : i ≤ cap := by omega
        have hicap' : (i : Int) ≤ (cap : Int) := by omega
        have hi0 : (0 : Int) ≤ (i : Int) := by omega
        clear hC
        have HMf := Lib.hid (Kd.own_sl (ok' := T) HO2.out (fun _ _ => trivial) (fun _ _ => trivial))
        go_wp2_with fail
        refine (unpack_calls fl _ w2 HMf.out).mono ?_
        rintro e w3 hu
        obtain ⟨hb3, va, rfl, hoa⟩ := hUF.out _ _ _ hu
        have HA := Lib.hid hoa
        have HB3 := Lib.hid (bel_step HB2.out hb3)
        have HM3 := Lib.hid (Kd.M_below HMf.out hb3)
        clear hu hoa hb3 HMf HO2
        have HN3 := Lib.hid (unpack_calls (fl.take i) _ w3 (sl_take HM3.out (by omega)))
        go_wp2_with fail
        refine HN3.out.mono ?_
        clear HN3
        rintro e w4 hu
        obtain ⟨hb4, rfl⟩ := un_none hC'.out hu
        have HB4 := Lib.hid (bel_step HB3.out hb4)
        have HM4 := Lib.hid (Kd.M_below HM3.out hb4)
        have HA4 := Lib.hid (Kd.own_below HA.out hb4)
        clear hu hb4 HM3 HA
        have b0 : Below w4.heap.size w4 (w4.alloc (.cells #[] 5)) := bel_alloc (Below.refl _ _) _
        have HO0 : Hid (byteK.own 5 (w4.alloc (.cells #[] 5)) w4.heap.size T (.slice (some ⟨w4.heap.size, 0, none⟩) 0 0) []) :=
          Lib.hid (Kd.own_block (cells := []) (xs := []) (Nat.le_refl _) (Kd.heap_new _ _) rfl (by simp) (fun i x h => by simp at h))
        have HR0 := Lib.hid (Kd.M_below HM4.out b0)
        go_wp2_with (at_builtin; first | (refine Kd.own_app byteK w4.heap.size rfl (.tmp 51) (.tmp 52) 22 5 (.int .u8 0) 1 rfl Try.underlying22 info_u8 rfl (by decide) _ [] fl (some ⟨g, 0, none⟩) cap T rfl rfl HO0.out (.inr ⟨HR0.out, any_u8⟩) b0 (by simp) (by simp; omega) ?_; intro v5 w5 ho5 hb5 hg5 hv5; clear hg5 hv5; rw [List.nil_append] at ho5; have HO5 := Lib.hid ho5; have HB5 := Lib.hid hb5; clear ho5 hb5) | (refine Kd.own_app1 byteK w4.heap.size rfl (.tmp 53) (.tmp 55) 22 5 (.int .u8 0) 1 rfl Try.underlying22 info_u8 rfl (by decide) _ fl by' [.int .u8 (by'.toNat : Int)] T rfl rfl HO5.out rfl HB5.out HB5.out.size (by omega) ?_; intro v6 w6 ho6 hb6 hg6 hv6; clear hg6 hv6; have HO6 := Lib.hid ho6; have HB6 := Lib.hid hb6; clear ho6 hb6))
        have HB4' := Lib.hid (bel_step HB4.out HB6.out)
        have HA6 := Lib.hid (Kd.own_below HA4.out HB6.out)
        have HN6 := Lib.hid (unpack_calls (fl ++ [by']) v6 w6 (Kd.own_sl (ok' := T) HO6.out (fun _ _ => trivial) (fun _ _ => trivial)))
        clear HO6 HB6 HB5 HO5 HR0 HO0 b0 HA4 HM4 HB4
        refine HN6.out.mono ?_
        clear HN6
        rintro e w7 hu
        obtain ⟨hb7, rfl⟩ := un_none hD.out hu
        have HB7 := Lib.hid (bel_step HB4'.out hb7)
        have HA7 := Lib.hid (Kd.own_below HA6.out hb7)
        have HSm := Lib.hid (same_self l va _ w7 (Kd.own_sl HA7.out (fun _ _ => trivial) (fun _ _ => trivial)) (Kd.M_below HM.out HB7.out))
        clear hu hb7 HB4' HA6 HA7
        go_wp2_with fail
        refine HSm.out.mono ?_
        rintro e w8 ⟨rfl, hb8⟩
        have HB8 := Lib.hid (bel_step HB7.out hb8)
        clear hb8
        go_wp2_with fail
        refine (BoxSmall.known_calls _).mono ?_
        rintro e w9 ⟨rfl, hb9⟩
        have HB9 := Lib.hid (bel_step HB8.out hb9)
        clear hb9
        go_wp2_with fail
        go_ret
        exact ⟨rfl, HB9.out⟩
      · exact absurd hN hMn
    · rw [decide_eq_false hMay]
      go_wp2
      go_ret
      exact ⟨rfl, HB1.out⟩
end Go.Proofs.Ytimjllokibnibaa.BoxLaws
