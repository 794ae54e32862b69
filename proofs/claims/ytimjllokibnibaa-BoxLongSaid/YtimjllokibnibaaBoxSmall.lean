/-
  What Same of the reference, and long and known of the law, answer.
-/
import Derived.Test.YtimjllokibnibaaBoxRefUn
set_option linter.unusedVariables false
set_option linter.unusedSimpArgs false
namespace Go.Proofs.Ytimjllokibnibaa.BoxSmall
open Go.RowKit Go.Proofs.Ytimjllokibnibaa.CrcPure Go.Proofs.Ytimjllokibnibaa.BoxPure Go.Proofs.Ytimjllokibnibaa.B Go.Proofs.Ytimjllokibnibaa.CrcWalk Go.Proofs.Ytimjllokibnibaa.CrcLaws Go.Proofs.Ytimjllokibnibaa.BoxWalk Go.Proofs.Ytimjllokibnibaa.BoxPack Go.Proofs.Ytimjllokibnibaa.BoxRef Go.Proofs.Ytimjllokibnibaa.BoxUnpack Go.Proofs.Ytimjllokibnibaa.BoxRefUn

set_option maxRecDepth 100000 in
set_option maxHeartbeats 1600000 in
theorem same_calls (la lb : List Sec) (va vb : Value) (w : World) (ma : secK.sl.M w T la [va]) (mb : secK.sl.M w T lb [vb]) :
    Calls Try.prog 26 #[va, vb] w fun e w' => e = .returned (.bool (decide (la = lb))) ∧ Below w.heap.size w w' := by
  obtain ⟨A, c, hv, h1, h2, h3, hra⟩ := ma
  simp at hv
  subst hv
  obtain ⟨A', c', hv, g1, g2, g3, hrb⟩ := mb
  simp at hv
  subst hv
  have HA := Lib.hid hra
  have HB := Lib.hid hrb
  have H2 := Lib.hid h2
  have G2 := Lib.hid g2
  clear hra hrb h2 g2
  by_cases hl : la.length = lb.length
  · have hd : decide (la.length = lb.length) = true := decide_eq_true hl
    have hlen : la.length ≤ 140737488355328 := H2.out.1
    go_enter Try.func26, Try.ntmps26
    go_wp2_with fail
    go_loopw [5] (fun vi wr => ∃ (k : Nat), k ≤ la.length ∧ vi = .int .i64 k ∧ Hid (la.take k = lb.take k) ∧ Hid (Below w.heap.size w wr)) (fun vi _ => la.length - (intOf vi).toNat)
    case atStart => exact ⟨0, by omega, rfl, Lib.hid (by simp), Lib.hid (Below.refl _ _)⟩
    case round =>
      obtain ⟨k, hk, rfl, HE, HW⟩ := hrel
      by_cases hlt : k < la.length
      · obtain ⟨b1, o1, A1, c1, rfl, _, p0, p1, _, pb⟩ := sec_at (Kd.row_old (Kd.row_mono (fun k _ hk => hk) HA.out) HW.out) k hlt
        obtain ⟨b2, o2, A2, c2, rfl, _, q0, q1, _, qb⟩ := sec_at (Kd.row_old (Kd.row_mono (fun k _ hk => hk) HB.out) HW.out) k (by omega)
        obtain ⟨A1', c1', he, _, _, _, r1⟩ := pb
        simp at he
        obtain ⟨rfl, rfl⟩ := he
        obtain ⟨A2', c2', he, _, _, _, r2⟩ := qb
        simp at he
        obtain ⟨rfl, rfl⟩ := he
        have ik : (k : Int) < (la.length : Int) := by omega
        have ik2 : (k : Int) < (lb.length : Int) := by omega
        have ik0 : (0 : Int) ≤ (k : Int) := by omega
        have HN : Hid (la[k] = lb[k]'(by omega) → la.take (k + 1) = lb.take (k + 1)) := Lib.hid (fun h => by rw [take_snoc la k hlt, take_snoc lb k (by omega), HE.out, h])
        have HX : Hid (la[k] ≠ lb[k]'(by omega) → decide (la = lb) = false) := Lib.hid (fun h => decide_eq_false (fun e => h (by subst e; rfl)))
        generalize la[k] = x at *
        generalize lb[k]'(by omega) = y at *
        obtain ⟨i1, s1⟩ := x
        obtain ⟨i2, s2⟩ := y
        dsimp only at *
        have k1 := fun (nq : Nat) => conv_string (P := Try.prog) (w := wr.drewN nq) (c := c1) Try.underlying22 Try.underlying5 Try.underlying9 (Kd.row_move (w := wr) (w1 := wr.drewN nq) (fun _ _ _ => rfl) r1)
        have k2 := fun (nq : Nat) => conv_string (P := Try.prog) (w := wr.drewN nq) (c := c2) Try.underlying22 Try.underlying5 Try.underlying9 (Kd.row_move (w := wr) (w1 := wr.drewN nq) (fun _ _ _ => rfl) r2)
        have he := mkS_beq s1 s2
        clear r1 r2
        by_cases hi : i1 = i2
        · have hdi : (i1 != i2) = false := by simp [hi]
          by_cases hs : s1 = s2
          · have hds : (s1 == s2) = true := by simp [hs]
            have HN' := Lib.hid (HN.out (by rw [hi, hs]))
            rw [hds] at he
            generalize mkS s1 = z1 at *
            generalize mkS s2 = z2 at *
            clear hi hs hds HN HX
            go_wp2_with fail
            go_quiet (fail)
            go_wp2
            go_roundw
            case rel => exact ⟨k + 1, by omega, by go_num, HN', Lib.hid (bel_drewN HW.out _)⟩
            case measure => simp [intOf]; omega
          · have hds : (s1 == s2) = false := by simp [hs]
            have HX' := Lib.hid (HX.out (by intro e; cases e; exact hs rfl))
            rw [hds] at he
            generalize mkS s1 = z1 at *
            generalize mkS s2 = z2 at *
            clear hi hs hds HN HX
            go_wp2_with fail
            go_quiet (fail)
            go_wp2
            go_ret
            exact ⟨ret_bool HX'.out.symm, bel_drewN HW.out _⟩
        · have hdi : (i1 != i2) = true := by simp [hi]
          have HX' := Lib.hid (HX.out (by intro e; cases e; exact hi rfl))
          clear hi HN HX he
          go_wp2_with fail
          go_quiet (fail)
          go_wp2
          go_ret
          exact ⟨ret_bool HX'.out.symm, bel_drewN HW.out _⟩
      · obtain rfl : k = la.length := by omega
        have HF : Hid (decide (la = lb) = true) := Lib.hid (decide_eq_true (by
          have := HE.out
          rw [List.take_length, hl, List.take_length] at this
          exact this))
        go_wp2_with fail
        go_ret
        exact ⟨ret_bool HF.out.symm, HW.out⟩
  · have hd : decide (la.length = lb.length) = false := decide_eq_false hl
    have hf : decide (la = lb) = false := decide_eq_false (fun h => hl (by rw [h]))
    go_enter Try.func26, Try.ntmps26
    go_wp2_with fail
    go_ret
    exact ⟨ret_bool hf.symm, Below.refl _ _⟩

set_option maxHeartbeats 800000 in
theorem long_calls (l : List Sec) (v : Value) (w : World) (m : secK.sl.M w T l [v]) :
    Calls Try.prog 20 #[v] w fun e w' => e = .returned (.bool (decide (5000 < total l + 10 * l.length))) ∧ w = w' := by
  obtain ⟨A, c, hv, h1, h2, h3, hr⟩ := m
  simp at hv
  subst hv
  have HR := Lib.hid hr
  clear hr
  obtain ⟨h47, h2'⟩ := h2
  clear h2'
  go_enter Try.func20, Try.ntmps20
  go_wp2
  go_loopw [3, 4] (fun vn vi wr => ∃ (k S : Nat), k ≤ l.length ∧ vi = .int .i64 k ∧ vn = .int .i64 S ∧ Hid (S = total (l.take k) + 10 * k) ∧ wr = w ∧ S ≤ 140737488361338) (fun _ vi _ => l.length - (intOf vi).toNat)
  case atStart => exact ⟨0, 0, by omega, rfl, rfl, Lib.hid (by simp [total]), rfl, by omega⟩
  case round =>
    obtain ⟨k, S, hk, rfl, rfl, HS, rfl, hS⟩ := hrel
    by_cases hlt : k < l.length
    · have hd : decide (k < l.length) = true := decide_eq_true hlt
      by_cases c5 : S ≤ 5000
      · have hd5 : decide ((S : Int) ≤ 5000) = true := decide_eq_true (by omega)
        obtain ⟨b, off, A', c', rfl, _, hc0, hc1, _, hbody⟩ := sec_at HR.out k hlt
        have hb47 : l[k].2.length ≤ 140737488355328 := by obtain ⟨_, _, _, _, hh, _⟩ := hbody; exact hh.1
        have HT := Lib.hid (total_snoc l k hlt)
        clear hbody hc0
        generalize l[k].2 = body at *
        have w1 : IntKind.i64.wrap ((S : Int) + 10) = (S : Int) + 10 := by rw [IntKind.wrap_i64]; omega
        have w2 : IntKind.i64.wrap ((S : Int) + 10 + (body.length : Int)) = (S : Int) + 10 + (body.length : Int) := by rw [IntKind.wrap_i64]; omega
        have ik : (k : Int) < (l.length : Int) := by omega
        have ik0 : (0 : Int) ≤ (k : Int) := by omega
        go_wp2
        go_roundw
        case rel => exact ⟨k + 1, S + 10 + body.length, by omega, by go_num, by go_num, Lib.hid (by rw [HT.out, HS.out]; omega), by first | rfl | trivial, by omega⟩
        case measure => simp [intOf]; omega
      · have hd5 : decide ((S : Int) ≤ 5000) = false := decide_eq_false (by omega)
        have hd6 : decide (5000 < (S : Int)) = true := decide_eq_true (by omega)
        have HF : Hid (decide (5000 < total l + 10 * l.length) = true) := Lib.hid (decide_eq_true (by have := HS.out; have := total_take l k; omega))
        go_wp2
        go_ret
        exact ⟨ret_bool HF.out.symm, rfl⟩
    · obtain rfl : k = l.length := by omega
      have HF : Hid (decide (5000 < total l + 10 * l.length) = decide (5000 < (S : Int))) := Lib.hid (by
        have := HS.out
        rw [List.take_length] at this
        rw [← this]
        by_cases h : 5000 < S
        · rw [decide_eq_true h, decide_eq_true (by omega)]
        · rw [decide_eq_false h, decide_eq_false (by omega)])
      go_wp2
      go_ret
      exact ⟨ret_bool HF.out.symm, rfl⟩

theorem may_nil : May [] := ⟨by decide, rfl, by simp [total]⟩
theorem file_nil : ∃ t, file [] = [84, 82, 73, 86, 1, 0] ++ t ∧ t.length = 3 := ⟨_, by rw [show file [] = header [] ++ three (crc (header [])) ++ bodies [] from rfl, bodies, List.append_nil]; rfl, three_length _⟩
set_option maxHeartbeats 800000 in
theorem known_calls (w : World) :
    Calls Try.prog 23 #[] w fun e w' => e = .returned (.bool true) ∧ Below w.heap.size w w' := by
  have hM : secK.sl.M w T [] [.slice none 0 0] := ⟨none, 0, rfl, Nat.le_refl _, ⟨by simp, Nat.zero_le _⟩, fun _ => rfl, Kd.row_nil _ _ _ _⟩
  have HP := Lib.hid (pack_calls [] _ w hM)
  clear hM
  go_enter Try.func23, Try.ntmps23
  go_wp2_with fail
  refine HP.out.mono ?_
  clear HP
  rintro e w1 ⟨hb1, ⟨_, v, rfl, ho⟩ | ⟨hn, _⟩⟩
  · obtain ⟨t, hf, ht⟩ := file_nil
    have hl9 : (file []).length = 9 := by rw [hf]; simp [ht]
    have hT6 : (file []).take 6 = [84, 82, 73, 86, 1, 0] := by rw [hf]; rfl
    generalize file [] = fl at *
    clear hf ht
    obtain ⟨A, c, hv, g1, g2, g3, hr⟩ := Kd.own_sl (ok' := T) ho (fun _ _ => trivial) (fun _ _ => trivial)
    simp at hv
    subst hv
    have hr2 := Kd.row_take hr 6
    rw [hT6] at hr2
    have k1 := conv_string (P := Try.prog) (w := w1) (c := c) Try.underlying22 Try.underlying5 Try.underlying9 hr2
    have hk : mkS [84, 82, 73, 86, 1, 0] = ⟨#[84, 82, 73, 86, 1, 0]⟩ := rfl
    rw [hk] at k1
    rw [show ([84, 82, 73, 86, 1, 0] : List UInt8).length = 6 from rfl] at k1
    clear hr hr2 hT6 ho hk
    generalize fl.length = n at *
    subst hl9
    have HB := Lib.hid hb1
    go_wp2_with fail
    go_ret
    exact ⟨rfl, HB.out⟩
  · exact absurd may_nil hn
end Go.Proofs.Ytimjllokibnibaa.BoxSmall
