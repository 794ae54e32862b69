/-
  The laws of box that look at what Pack and Unpack answer.
-/
import Derived.Test.YtimjllokibnibaaBoxSmall
set_option linter.unusedVariables false
set_option linter.unusedSimpArgs false
namespace Go.Proofs.Ytimjllokibnibaa.BoxLaws
open Go.RowKit Go.Proofs.Ytimjllokibnibaa.CrcPure Go.Proofs.Ytimjllokibnibaa.BoxPure Go.Proofs.Ytimjllokibnibaa.B Go.Proofs.Ytimjllokibnibaa.CrcWalk Go.Proofs.Ytimjllokibnibaa.CrcLaws Go.Proofs.Ytimjllokibnibaa.BoxWalk Go.Proofs.Ytimjllokibnibaa.BoxPack Go.Proofs.Ytimjllokibnibaa.BoxRef Go.Proofs.Ytimjllokibnibaa.BoxUnpack Go.Proofs.Ytimjllokibnibaa.BoxRefUn Go.Proofs.Ytimjllokibnibaa.BoxSmall

set_option maxHeartbeats 1600000 in
theorem packs (w : World) (l : List Sec) (v : Value) (m : secK.sl.M w T l [v]) :
    Calls Try.prog 9 #[v] w fun e w' => e = .returned (.bool true) ∧ Below w.heap.size w w' := by
  have HM := Lib.hid m
  obtain ⟨A, c, hv, h1, h2, h3, hr⟩ := m
  simp at hv
  subst hv
  clear h2 hr
  go_enter Try.func9, Try.ntmps9
  go_wp2_with fail
  refine (long_calls l _ w HM.out).mono ?_
  rintro e w0 ⟨rfl, rfl⟩
  by_cases hlong : 5000 < total l + 10 * l.length
  · rw [decide_eq_true hlong]
    go_wp2
    go_ret
    exact ⟨rfl, Below.refl _ _⟩
  · rw [decide_eq_false hlong]
    have HP := Lib.hid (pack_calls l _ w HM.out)
    go_wp2_with fail
    refine HP.out.mono ?_
    clear HP
    rintro e w1 ⟨hb1, hp⟩
    have HQ := Lib.hid (refpack_calls l (by omega) _ w1 (Kd.M_below HM.out hb1))
    have HB1 := Lib.hid hb1
    rcases hp with ⟨hMay, vp, rfl, hop⟩ | ⟨hMay, rfl⟩
    · have HOp := Lib.hid hop
      clear hop hb1
      obtain ⟨Ap, cp, hvp, _, _, _, hrp⟩ := Kd.own_sl (ok' := T) HOp.out (fun _ _ => trivial) (fun _ _ => trivial)
      simp at hvp
      subst hvp
      have HRp := Lib.hid hrp
      clear hrp
      go_wp2_with fail
      refine HQ.out.mono ?_
      clear HQ
      rintro e w2 ⟨hb2, ⟨_, vq, rfl, hoq⟩ | ⟨hN, _⟩⟩
      · obtain ⟨Aq, cq, hvq, _, _, _, hrq⟩ := Kd.own_sl (ok' := T) hoq (fun _ _ => trivial) (fun _ _ => trivial)
        simp at hvq
        subst hvq
        have k1 := conv_string (P := Try.prog) (w := w2) (c := cp) Try.underlying22 Try.underlying5 Try.underlying9 (Kd.row_below HRp.out hb2)
        have k2 := conv_string (P := Try.prog) (w := w2) (c := cq) Try.underlying22 Try.underlying5 Try.underlying9 hrq
        have HB2 := Lib.hid (bel_step HB1.out hb2)
        clear hrq hoq hb2
        generalize file l = fl at *
        generalize mkS fl = s at *
        go_wp2_with fail
        refine (BoxSmall.known_calls _).mono ?_
        rintro e w3 ⟨rfl, hb3⟩
        have HB3 := Lib.hid (bel_step HB2.out hb3)
        clear hb3
        go_wp2_with fail
        go_ret
        exact ⟨rfl, HB3.out⟩
      · exact absurd hMay hN
    · go_wp2_with fail
      refine HQ.out.mono ?_
      clear HQ
      rintro e w2 ⟨hb2, ⟨hM, _⟩ | ⟨_, rfl⟩⟩
      · exact absurd hM hMay
      · have k1 := conv_string (P := Try.prog) (w := w2) (c := 0) (A := none) (l := []) (ok := T) Try.underlying22 Try.underlying5 Try.underlying9 (Kd.row_nil _ _ _ _)
        rw [List.length_nil] at k1
        have HB2 := Lib.hid (bel_step HB1.out hb2)
        generalize mkS [] = s at *
        go_wp2_with fail
        refine (BoxSmall.known_calls _).mono ?_
        rintro e w3 ⟨rfl, hb3⟩
        have HB3 := Lib.hid (bel_step HB2.out hb3)
        clear hb3
        go_wp2_with fail
        go_ret
        exact ⟨rfl, HB3.out⟩

/-- Unpack's answer: no sections and an error, or the sections. -/
def code (r : Option (List Sec)) : Int := if r.isSome then 0 else 2
theorem nil_secs (w : World) : secK.sl.M w T [] [.slice none 0 0] := ⟨none, 0, rfl, Nat.le_refl _, ⟨by simp, Nat.zero_le _⟩, fun _ => rfl, Kd.row_nil _ _ _ _⟩
theorem un_cases {b : List UInt8} {w w' : World} {e : Ending} (h : UnpackPost b w e w') : Below w.heap.size w w' ∧ ∃ r v, Reads b r ∧ e = .returned (.tuple #[v, .int .i64 (code r)]) ∧ secK.sl.M w' T (r.getD []) [v] ∧ (r = none → v = .slice none 0 0) := by
  obtain ⟨hb, r, hr, hv⟩ := h
  refine ⟨hb, r, ?_⟩
  cases r with
  | none => exact ⟨_, hr, hv, nil_secs _, fun _ => rfl⟩
  | some l =>
    obtain ⟨v, he, ho⟩ := hv
    exact ⟨v, hr, he, Kd.own_sl ho (fun _ _ => trivial) (fun _ _ => trivial), fun h => by cases h⟩

theorem same_self (l : List Sec) (va vb : Value) (w : World) (ma : secK.sl.M w T l [va]) (mb : secK.sl.M w T l [vb]) :
    Calls Try.prog 26 #[va, vb] w fun e w' => e = .returned (.bool true) ∧ Below w.heap.size w w' :=
  (same_calls l l va vb w ma mb).mono fun e w' h => ⟨by rw [h.1, decide_eq_true rfl], h.2⟩

set_option maxHeartbeats 1600000 in
theorem takes (w : World) (b : List UInt8) (v : Value) (m : byteK.sl.M w T b [v]) :
    Calls Try.prog 11 #[v] w fun e w' => e = .returned (.bool true) ∧ Below w.heap.size w w' := by
  have HM := Lib.hid m
  obtain ⟨A, c, hv, h1, h2, h3, hr⟩ := m
  simp at hv
  subst hv
  clear h2 hr
  by_cases hl : 5000 < b.length
  · have hd : decide (5000 < (b.length : Int)) = true := decide_eq_true (by omega)
    go_enter Try.func11, Try.ntmps11
    go_wp2
    go_ret
    exact ⟨rfl, Below.refl _ _⟩
  · have hd : decide (5000 < (b.length : Int)) = false := decide_eq_false (by omega)
    have b0 : Below w.heap.size w (w.alloc (.cells #[] 5)) := bel_alloc (Below.refl _ _) _
    have HO0 : Hid (byteK.own 5 (w.alloc (.cells #[] 5)) w.heap.size T (.slice (some ⟨w.heap.size, 0, none⟩) 0 0) []) :=
      Lib.hid (Kd.own_block (cells := []) (xs := []) (Nat.le_refl _) (Kd.heap_new _ _) rfl (by simp) (fun i x h => by simp at h))
    have HR0 := Lib.hid (Kd.M_below HM.out b0)
    go_enter Try.func11, Try.ntmps11
    go_wp2_with (at_builtin; refine Kd.own_app byteK w.heap.size rfl (.tmp 11) (.tmp 12) 22 5 (.int .u8 0) 1 rfl Try.underlying22 info_u8 rfl (by decide) _ [] b A c T rfl rfl HO0.out (.inr ⟨HR0.out, any_u8⟩) b0 (by simp) (by simp; omega) ?_; intro v1 w1 ho1 hb1 hg1 hv1; clear hg1 hv1; rw [List.nil_append] at ho1; have HO1 := Lib.hid ho1; clear ho1)
    have HB1 := Lib.hid hb1
    clear hb1 b0 HO0 HR0
    refine (unpack_calls b v1 w1 (Kd.own_sl HO1.out (fun _ _ => trivial) (fun _ _ => trivial))).mono ?_
    rintro e w2 hu
    obtain ⟨hb2, r, va, hr, rfl, hma, _⟩ := un_cases hu
    have HB2 := Lib.hid (bel_step HB1.out hb2)
    have HMa := Lib.hid hma
    have HRd := Lib.hid hr
    clear hu hb2 hma hr
    go_wp2_with fail
    refine (refunpack_calls b (by omega) _ w2 (Kd.M_below HM.out HB2.out)).mono ?_
    rintro e w3 hu
    obtain ⟨hb3, r', vb, hr', rfl, hmb, _⟩ := un_cases hu
    obtain rfl : r' = r := Reads.unique hr' HRd.out
    have HB3 := Lib.hid (bel_step HB2.out hb3)
    have HSm := Lib.hid (same_self _ va vb w3 (Kd.M_below HMa.out hb3) hmb)
    clear hu hb3 hmb hr'
    generalize code r' = cd at *
    go_wp2_with fail
    refine HSm.out.mono ?_
    rintro e w4 ⟨rfl, hb4⟩
    have HB4 := Lib.hid (bel_step HB3.out hb4)
    clear hb4
    go_wp2_with fail
    refine (BoxSmall.known_calls _).mono ?_
    rintro e w5 ⟨rfl, hb5⟩
    have HB5 := Lib.hid (bel_step HB4.out hb5)
    clear hb5
    go_wp2_with fail
    go_ret
    exact ⟨rfl, HB5.out⟩

theorem un_file {l : List Sec} (hM : May l) {w w' : World} {e : Ending} (h : UnpackPost (file l) w e w') : Below w.heap.size w w' ∧ ∃ v, e = .returned (.tuple #[v, .int .i64 0]) ∧ secK.own 42 w' w.heap.size (fun k => w.heap.size ≤ k) v l := by
  obtain ⟨hb, r, hr, hv⟩ := h
  obtain rfl : r = some l := (hr l).2 ⟨hM, rfl⟩
  exact ⟨hb, hv⟩
theorem file_pos (l : List Sec) : 9 ≤ (file l).length := by rw [file_length]; omega

set_option maxHeartbeats 1600000 in
theorem owned (w : World) (l : List Sec) (v : Value) (m : secK.sl.M w T l [v]) :
    Calls Try.prog 15 #[v] w fun e w' => e = .returned (.bool true) ∧ Below w.heap.size w w' := by
  have HM := Lib.hid m
  obtain ⟨A, c, hv, h1, h2, h3, hr⟩ := m
  simp at hv
  subst hv
  clear h2 hr
  go_enter Try.func15, Try.ntmps15
  go_wp2_with fail
  refine (long_calls l _ w HM.out).mono ?_
  rintro e w0 ⟨rfl, rfl⟩
  by_cases hlong : 5000 < total l + 10 * l.length
  · rw [decide_eq_true hlong]
    go_wp2
    go_ret
    exact ⟨rfl, Below.refl _ _⟩
  · rw [decide_eq_false hlong]
    go_wp2_with fail
    refine (may_calls l (by omega) _ T w HM.out).mono ?_
    rintro e w1 ⟨rfl, hb1⟩
    have HB1 := Lib.hid hb1
    by_cases hMay : May l
    · rw [decide_eq_true hMay]
      have hMc := Lib.hid hMay
      have hMn : ¬ ¬ May l := fun h => h hMay
      have HP := Lib.hid (pack_calls l _ w1 (Kd.M_below HM.out hb1))
      clear hMay hb1
      go_wp2_with fail
      refine HP.out.mono ?_
      clear HP
      rintro e w2 ⟨hb2, ⟨_, vp, rfl, hop⟩ | ⟨hN, _⟩⟩
      · have HB2 := Lib.hid (bel_step HB1.out hb2)
        have HO2 := Lib.hid (Kd.own_lower (base' := w.heap.size) HB1.out.size hop)
        have HU := Lib.hid (unpack_calls (file l) vp w2 (Kd.own_sl HO2.out (fun _ _ => trivial) (fun _ _ => trivial)))
        clear hb2 hop
        have hpos := file_pos l
        obtain ⟨g, cap, rfl, hg1, hg2, hcap⟩ := Kd.own_form HO2.out (by omega)
        go_wp2_with fail
        refine HU.out.mono ?_
        clear HU
        rintro e w3 hu
        obtain ⟨hb3, va, rfl, hoa⟩ := un_file hMc.out hu
        have HA := Lib.hid hoa
        have HB3 := Lib.hid (bel_step HB2.out hb3)
        have HO3 := Lib.hid (Kd.own_below HO2.out hb3)
        clear hu hoa hb3 HO2
        generalize file l = fl at *
        have hn47 : fl.length ≤ 140737488355328 := HO3.out.1
        generalize hn : fl.length = n at *
        go_wp2_with fail
        go_loopw [7] (fun vi wr => ∃ (k : Nat) (bs : List UInt8), k ≤ n ∧ vi = .int .i64 k ∧ bs.length = n ∧ Hid (byteK.own 5 wr w.heap.size T (.slice (some ⟨g, 0, none⟩) n cap) bs) ∧
          Hid (secK.own 42 wr w2.heap.size (fun k => w2.heap.size ≤ k) va l) ∧ Hid (Below w.heap.size w wr)) (fun vi _ => n - (intOf vi).toNat)
        case atStart => exact ⟨0, fl, by omega, rfl, hn, HO3, HA, HB3⟩
        case round =>
          clear HO3 HA HB3
          obtain ⟨k, bs, hk, rfl, hbl, HO, HA, HB⟩ := hrel
          by_cases hlt : k < n
          · have hd : decide (k < n) = true := decide_eq_true hlt
            obtain ⟨u, hc, hu⟩ := Kd.own_cell (i := k) rfl HO.out (by omega)
            obtain rfl : u = .int .u8 (bs[k].toNat : Int) := by simpa [byteK, flat] using hu
            clear hu
            have hf := Kd.own_frozen HO.out k
            have HS := Lib.hid (Kd.own_set (u := .int .u8 0) rfl HO.out (i := k) (by omega) (x := 0) rfl)
            have HA' := Lib.hid (Kd.own_move (w1 := wr.setCell ⟨g, k, none⟩ (.int .u8 0)) (fun j hj _ => Below.heap_setCell _ _ _ _ (by
              have : w2.heap.size ≤ j := hj.elim (fun h => h) (fun h => (Kd.own_lt HA.out j h).1)
              simp
              omega)) HA.out)
            have HB' := Lib.hid (bel_set HB.out (g := g) (j := k) hg1 (.int .u8 0))
            have ik : (k : Int) < (n : Int) := by omega
            have ik0 : (0 : Int) ≤ (k : Int) := by omega
            go_wp2
            go_roundw
            case rel => exact ⟨k + 1, bs.set k 0, by omega, by go_num, by simp [hbl], HS, HA', HB'⟩
            case measure => simp [intOf]; omega
          · obtain rfl : k = n := by omega
            have HSm := Lib.hid (same_self l va _ wr (Kd.own_sl HA.out (fun _ _ => trivial) (fun _ _ => trivial)) (Kd.M_below HM.out HB.out))
            go_wp2_with fail
            refine HSm.out.mono ?_
            rintro e w4 ⟨rfl, hb4⟩
            have HB4 := Lib.hid (bel_step HB.out hb4)
            clear hb4
            go_wp2_with fail
            refine (BoxSmall.known_calls _).mono ?_
            rintro e w5 ⟨rfl, hb5⟩
            have HB5 := Lib.hid (bel_step HB4.out hb5)
            clear hb5
            go_wp2_with fail
            go_ret
            exact ⟨rfl, HB5.out⟩
      · exact absurd hN hMn
    · rw [decide_eq_false hMay]
      go_wp2
      go_ret
      exact ⟨rfl, HB1.out⟩

theorem un_none {b : List UInt8} (hM : ∀ l, May l → file l ≠ b) {w w' : World} {e : Ending} (h : UnpackPost b w e w') : Below w.heap.size w w' ∧ e = .returned (.tuple #[.slice none 0 0, .int .i64 2]) := by
  obtain ⟨hb, r, hr, hv⟩ := h
  cases r with
  | none => exact ⟨hb, hv⟩
  | some l => exact absurd ((hr l).1 rfl).2 (hM l ((hr l).1 rfl).1)

set_option maxHeartbeats 1600000 in
theorem turned (w : World) (l : List Sec) (v : Value) (m : secK.sl.M w T l [v]) (at' : Int) (hat : -9223372036854775808 ≤ at' ∧ at' ≤ 9223372036854775807) (by' : UInt8) :
    Calls Try.prog 13 #[v, .int .i64 at', .int .u8 by'.toNat] w fun e w' => e = .returned (.bool true) ∧ Below w.heap.size w w' := by
  have HM := Lib.hid m
  obtain ⟨A, c, hv, h1, h2, h3, hr⟩ := m
  simp at hv
  subst hv
  clear h2 hr
  have hby := by'.toNat_lt
  have h65 := and_65535 at'
  generalize hK : Go.bits .and .i64 at' 65535 = K at *
  go_enter Try.func13, Try.ntmps13
  go_wp2_with fail
  refine (long_calls l _ w HM.out).mono ?_
  rintro e w0 ⟨rfl, rfl⟩
  by_cases hlong : 5000 < total l + 10 * l.length
  · rw [decide_eq_true hlong]
    go_wp2
    go_ret
    exact ⟨rfl, Below.refl _ _⟩
  · rw [decide_eq_false hlong]
    go_wp2_with fail
    refine (may_calls l (by omega) _ T w HM.out).mono ?_
    rintro e w1 ⟨rfl, hb1⟩
    have HB1 := Lib.hid hb1
    by_cases hMay : May l
    · rw [decide_eq_true hMay]
      have hMc := Lib.hid hMay
      have hMn : ¬ ¬ May l := fun h => h hMay
      have HP := Lib.hid (pack_calls l _ w1 (Kd.M_below HM.out hb1))
      clear hMay hb1
      by_cases hz : by' = 0
      · have q3 : ((by'.toNat : Int) == 0) = true := by subst hz; rfl
        go_wp2
        go_ret
        exact ⟨rfl, HB1.out⟩
      · have q3 : ((by'.toNat : Int) == 0) = false := by
          rw [beq_eq_false_iff_ne]
          intro h
          exact hz (UInt8.toNat_inj.1 (by rw [UInt8.toNat_zero]; omega))
        go_wp2_with fail
        refine HP.out.mono ?_
        clear HP
        rintro e w2 ⟨hb2, ⟨_, vp, rfl, hop⟩ | ⟨hN, _⟩⟩
        · have HB2 := Lib.hid (bel_step HB1.out hb2)
          have HO2 := Lib.hid (Kd.own_lower (base' := w.heap.size) HB1.out.size hop)
          clear hb2 hop
          have hpos := file_pos l
          have hlen := file_length l
          have hH : Hid (∀ (i : Nat) (h : i < (file l).length) (x : UInt8), x ≠ (file l)[i] → ∀ l', May l' → file l' ≠ (file l).set i x) := Lib.hid (fun i h x hx l' h' => file_turned hMc.out h' h hx)
          generalize file l = fl at *
          obtain ⟨g, cap, rfl, hg1, hg2, hcap⟩ := Kd.own_form HO2.out (by omega)
          have hi : K % (fl.length : Int) = ((K % (fl.length : Int)).toNat : Int) := (Int.toNat_of_nonneg (Int.emod_nonneg _ (by omega))).symm
          have hil : (K % (fl.length : Int)).toNat < fl.length := by
            have := Int.emod_lt_of_pos K (show (0 : Int) < (fl.length : Int) by omega)
            omega
          generalize (K % (fl.length : Int)).toNat = i at *
          obtain ⟨u, hc, hu⟩ := Kd.own_cell rfl HO2.out hil
          obtain rfl : u = .int .u8 (fl[i].toNat : Int) := by simpa [byteK, flat] using hu
          clear hu
          have hf := Kd.own_frozen HO2.out i
          have hx := u8_xor_b fl[i] by'
          have HS := Lib.hid (Kd.own_set (u := .int .u8 ((fl[i] ^^^ by').toNat : Int)) rfl HO2.out hil (x := fl[i] ^^^ by') rfl)
          have HB3 := Lib.hid (bel_set HB2.out (g := g) (j := i) hg1 (.int .u8 ((fl[i] ^^^ by').toNat : Int)))
          have HT := Lib.hid (hH.out i hil (fl[i] ^^^ by') (xor_ne fl[i] by' hz))
          have hn0 : ((fl.length : Int) == 0) = false := by rw [beq_eq_false_iff_ne]; omega
          clear hlen hH
          generalize fl[i] ^^^ by' = x at *
          generalize fl[i] = li at *
          have HU := Lib.hid (unpack_calls (fl.set i x) _ _ (Kd.own_sl (ok' := T) HS.out (fun _ _ => trivial) (fun _ _ => trivial)))
          go_wp2_with fail
          refine HU.out.mono ?_
          clear HU
          rintro e w3 hu
          obtain ⟨hb3, rfl⟩ := un_none HT.out hu
          have HB4 := Lib.hid (bel_step HB3.out hb3)
          clear hu hb3
          go_wp2_with fail
          refine (BoxSmall.known_calls _).mono ?_
          rintro e w5 ⟨rfl, hb5⟩
          have HB5 := Lib.hid (bel_step HB4.out hb5)
          clear hb5
          go_wp2_with fail
          go_ret
          exact ⟨rfl, HB5.out⟩
        · exact absurd hN hMn
    · rw [decide_eq_false hMay]
      go_wp2
      go_ret
      exact ⟨rfl, HB1.out⟩
end Go.Proofs.Ytimjllokibnibaa.BoxLaws
