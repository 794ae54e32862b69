/-
  The laws of box that look at what Pack and Unpack answer.
-/
import Derived.Test.YtimjllokibnibaaBoxSmall
set_option linter.unusedVariables false
set_option linter.unusedSimpArgs false
namespace Go.Proofs.Ytimjllokibnibaa.BoxLaws
open Go.RowKit Go.Proofs.Ytimjllokibnibaa.CrcPure Go.Proofs.Ytimjllokibnibaa.BoxPure Go.Proofs.Ytimjllokibnibaa.B Go.Proofs.Ytimjllokibnibaa.CrcWalk Go.Proofs.Ytimjllokibnibaa.CrcLaws Go.Proofs.Ytimjllokibnibaa.BoxWalk Go.Proofs.Ytimjllokibnibaa.BoxPack Go.Proofs.Ytimjllokibnibaa.BoxRef Go.Proofs.Ytimjllokibnibaa.BoxUnpack Go.Proofs.Ytimjllokibnibaa.BoxRefUn Go.Proofs.Ytimjllokibnibaa.BoxSmall

set_option maxHeartbeats 1600000 in
theorem packs (w : World) (l : List Sec) (v : Value) (m : secK.sl.M w T l [v]) :
    Calls Try.prog 9 #[v] w fun e w' => e = .returned (.bool true) ∧ Below w.heap.size w w' := by
  have HM := Lib.hid m
  obtain ⟨A, c, hv, h1, h2, h3, hr⟩ := m
  simp at hv
  subst hv
  clear h2 hr
  go_enter Try.func9, Try.ntmps9
  go_wp2_with fail
  refine (long_calls l _ w HM.out).mono ?_
  rintro e w0 ⟨rfl, rfl⟩
  by_cases hlong : 5000 < total l + 10 * l.length
  · rw [decide_eq_true hlong]
    go_wp2
    go_ret
    exact ⟨rfl, Below.refl _ _⟩
  · rw [decide_eq_false hlong]
    have HP := Lib.hid (pack_calls l _ w HM.out)
    go_wp2_with fail
    refine HP.out.mono ?_
    clear HP
    rintro e w1 ⟨hb1, hp⟩
    have HQ := Lib.hid (refpack_calls l (by omega) _ w1 (Kd.M_below HM.out hb1))
    have HB1 := Lib.hid hb1
    rcases hp with ⟨hMay, vp, rfl, hop⟩ | ⟨hMay, rfl⟩
    · have HOp := Lib.hid hop
      clear hop hb1
      obtain ⟨Ap, cp, hvp, _, _, _, hrp⟩ := Kd.own_sl (ok' := T) HOp.out (fun _ _ => trivial) (fun _ _ => trivial)
      simp at hvp
      subst hvp
      have HRp := Lib.hid hrp
      clear hrp
      go_wp2_with fail
      refine HQ.out.mono ?_
      clear HQ
      rintro e w2 ⟨hb2, ⟨_, vq, rfl, hoq⟩ | ⟨hN, _⟩⟩
      · obtain ⟨Aq, cq, hvq, _, _, _, hrq⟩ := Kd.own_sl (ok' := T) hoq (fun _ _ => trivial) (fun _ _ => trivial)
        simp at hvq
        subst hvq
        have k1 := conv_string (P := Try.prog) (w := w2) (c := cp) Try.underlying22 Try.underlying5 Try.underlying9 (Kd.row_below HRp.out hb2)
        have k2 := conv_string (P := Try.prog) (w := w2) (c := cq) Try.underlying22 Try.underlying5 Try.underlying9 hrq
        have HB2 := Lib.hid (bel_step HB1.out hb2)
        clear hrq hoq hb2
        generalize file l = fl at *
        generalize mkS fl = s at *
        go_wp2_with fail
        refine (BoxSmall.known_calls _).mono ?_
        rintro e w3 ⟨rfl, hb3⟩
        have HB3 := Lib.hid (bel_step HB2.out hb3)
        clear hb3
        go_wp2_with fail
        go_ret
        exact ⟨rfl, HB3.out⟩
      · exact absurd hMay hN
    · go_wp2_with fail
      refine HQ.out.mono ?_
      clear HQ
      rintro e w2 ⟨hb2, ⟨hM, _⟩ | ⟨_, rfl⟩⟩
      · exact absurd hM hMay
      · have k1 := conv_string (P := Try.prog) (w := w2) (c := 0) (A := none) (l := []) (ok := T) Try.underlying22 Try.underlying5 Try.underlying9 (Kd.row_nil _ _ _ _)
        rw [List.length_nil] at k1
        have HB2 := Lib.hid (bel_step HB1.out hb2)
        generalize mkS [] = s at *
        go_wp2_with fail
        refine (BoxSmall.known_calls _).mono ?_
        rintro e w3 ⟨rfl, hb3⟩
        have HB3 := Lib.hid (bel_step HB2.out hb3)
        clear hb3
        go_wp2_with fail
        go_ret
        exact ⟨rfl, HB3.out⟩
end Go.Proofs.Ytimjllokibnibaa.BoxLaws
