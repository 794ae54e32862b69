/-
  What the reference's Unpack answers.
-/
import Derived.Test.YtimjllokibnibaaBoxUnpack
set_option linter.unusedVariables false
set_option linter.unusedSimpArgs false
namespace Go.Proofs.Ytimjllokibnibaa.BoxRefUn
open Go.RowKit Go.Proofs.Ytimjllokibnibaa.CrcPure Go.Proofs.Ytimjllokibnibaa.BoxPure Go.Proofs.Ytimjllokibnibaa.B Go.Proofs.Ytimjllokibnibaa.CrcWalk Go.Proofs.Ytimjllokibnibaa.CrcLaws Go.Proofs.Ytimjllokibnibaa.BoxWalk Go.Proofs.Ytimjllokibnibaa.BoxPack Go.Proofs.Ytimjllokibnibaa.BoxRef Go.Proofs.Ytimjllokibnibaa.BoxUnpack

theorem num_cells {h : List UInt8} (h3 : 4 ≤ h.length) : ((num (h.drop 1) : Nat) : Int) = Go.bits .or .i64 (Go.bits .or .i64 ((h[1].toNat : Int) * 65536) ((h[2].toNat : Int) * 256)) (h[3].toNat : Int) := by
  rw [or_bytes]
  unfold num
  rw [getD_at _ 0 (by simp; omega), getD_at _ 1 (by simp; omega), getD_at _ 2 (by simp; omega)]
  simp [List.getElem_drop]

set_option maxRecDepth 100000 in
set_option maxHeartbeats 3200000 in
theorem refunpack_calls (b : List UInt8) (hb : b.length ≤ 5800) (v : Value) (w : World) (m : byteK.sl.M w T b [v]) :
    Calls Try.prog 25 #[v] w (UnpackPost b w) := by
  obtain ⟨A, c, hv, h1, h2, h3, hr0⟩ := m
  simp at hv
  subst hv
  have HR := Lib.hid (Kd.row_mono (ok' := fun k => k < w.heap.size) (fun k _ hk => hk) hr0)
  have HM := Lib.hid (Kd.u8_sl h1 h2 h3 hr0)
  clear hr0
  by_cases c9 : b.length < 9
  · have q1 : decide ((b.length : Int) < 9) = true := decide_eq_true (by omega)
    have HN := Lib.hid (reads_short (b := b) (.inl (by omega)))
    clear h2
    go_enter Try.func25, Try.ntmps25
    go_wp2
    go_ret2
    exact ⟨Below.refl _ _, none, HN.out, rfl⟩
  · have q1 : decide ((b.length : Int) < 9) = false := decide_eq_false (by omega)
    obtain ⟨ba, off, rfl, hcell⟩ := u8_plain HR.out (by omega)
    have hc5 := hcell 5 (by omega)
    have HG : Hid (b.getD 5 0 = b[5]) := Lib.hid (getD_at b 5 (by omega))
    have hn5 := b[5].toNat_lt
    clear hcell
    have i5 : (5 : Int) < (b.length : Int) := by omega
    generalize hbn : b[5] = bn at *
    clear hbn
    generalize hnn : bn.toNat = n at *
    have wn : IntKind.i64.wrap (n : Int) = (n : Int) := by rw [IntKind.wrap_i64]; omega
    have HC := Lib.hid h2
    clear h2
    by_cases c8 : 8 < n
    · have q2 : decide (8 < (n : Int)) = true := decide_eq_true (by omega)
      have HN := Lib.hid (reads_short (b := b) (.inr (.inr (by rw [HG.out, hnn]; exact c8))))
      go_enter Try.func25, Try.ntmps25
      go_wp2
      go_ret2
      exact ⟨Below.refl _ _, none, HN.out, rfl⟩
    · have q2 : decide (8 < (n : Int)) = false := decide_eq_false (by omega)
      have ww : IntKind.i64.wrap (7 * (n : Int)) = 7 * (n : Int) := by rw [IntKind.wrap_i64]; omega
      have ww2 : IntKind.i64.wrap (9 + 7 * (n : Int)) = ((9 + 7 * n : Nat) : Int) := by rw [IntKind.wrap_i64]; omega
      by_cases cl : b.length < 9 + 7 * n
      · have q3 : decide (b.length < 9 + 7 * n) = true := decide_eq_true (by omega)
        have HN := Lib.hid (reads_short (b := b) (.inr (.inl (by rw [HG.out, hnn]; exact cl))))
        generalize 9 + 7 * n = t at *
        go_enter Try.func25, Try.ntmps25
        go_wp2
        go_ret2
        exact ⟨Below.refl _ _, none, HN.out, rfl⟩
      · have q3 : decide (b.length < 9 + 7 * n) = false := decide_eq_false (by omega)
        have HParse : Hid (parse b = secs n (b.drop 6) (b.drop (9 + 7 * n))) := by
          refine Lib.hid ?_
          unfold parse
          rw [HG.out, hnn]
        have HI0 : Hid (secs n (b.drop 6) (b.drop (9 + 7 * n)) = (secs (n - 0) (b.drop (6 + 7 * 0)) (b.drop (9 + 7 * n))).map ([] ++ ·)) := by
          refine Lib.hid ?_
          simp
        have htb : 9 + 7 * n ≤ b.length := by omega
        generalize ht : 9 + 7 * n = t0 at *
        have HT := Lib.hid ht
        clear ht
        have HR' := HR
        clear cl hnn hn5
        go_enter Try.func25, Try.ntmps25
        go_wp2_with fail
        go_loopw [5, 6, 7] (fun v5 v6 vi wr => ∃ (k t : Nat) (ls : List Sec), k ≤ n ∧ vi = .int .i64 k ∧ v5 = .int .i64 t ∧ t ≤ b.length ∧ Hid (t = t0 + total ls) ∧ Hid (secs n (b.drop 6) (b.drop t0) = (secs (n - k) (b.drop (6 + 7 * k)) (b.drop t)).map (ls ++ ·)) ∧ ls.length = k ∧
          Hid (secK.own 42 wr w.heap.size (fun k => w.heap.size ≤ k) v6 ls) ∧ Hid (Below w.heap.size w wr)) (fun _ _ vi _ => n - (intOf vi).toNat)
        case atStart => exact ⟨0, t0, [], by omega, rfl, rfl, htb, Lib.hid (by simp [total]), HI0, rfl, Lib.hid (Kd.own_nil _ _ _ _ _), Lib.hid (Below.refl _ _)⟩
        case round =>
          clear HI0
          obtain ⟨k, t, ls, hk, rfl, rfl, htl, HTL, HI, hls, HO, HB⟩ := hrel
          by_cases hlt : k < n
          · have hdl : decide (k < n) = true := decide_eq_true hlt
            obtain ⟨m, hm⟩ : ∃ m, n - k = m + 1 := ⟨n - k - 1, by omega⟩
            rw [hm] at HI
            have w7 : IntKind.i64.wrap (7 * (k : Int)) = 7 * (k : Int) := by rw [IntKind.wrap_i64]; omega
            have w6 : IntKind.i64.wrap (6 + 7 * (k : Int)) = ((6 + 7 * k : Nat) : Int) := by rw [IntKind.wrap_i64]; omega
            have h6 : 6 + 7 * k + 10 ≤ b.length := by have := HT.out; omega
            have wt : IntKind.i64.wrap ((b.length : Int) - (t : Int)) = (b.length : Int) - (t : Int) := by rw [IntKind.wrap_i64]; omega
            obtain ⟨A1, -, hcu, -, hrow⟩ := Kd.cut_run (P := Try.prog) byteK 22 5 Try.underlying22 cellsB (.int .u8 0) 1 info_u8 (some ⟨ba, off, none⟩) b.length c (6 + 7 * k) b.length (by omega) (Nat.le_refl _) h1 HC.out h3
            have hs1 := fun (kl : IntKind) (w : World) => hcu kl w rfl
            have HR1 := Lib.hid (hrow w _ b rfl HR.out)
            rw [List.take_length] at HR1
            rw [show b.length - (6 + 7 * k) = (b.drop (6 + 7 * k)).length by simp] at *
            clear hcu hrow
            have HNx : Hid (b.drop (6 + 7 * (k + 1)) = (b.drop (6 + 7 * k)).drop 7) := by
              refine Lib.hid ?_
              rw [List.drop_drop, show 6 + 7 * (k + 1) = 6 + 7 * k + 7 by omega]
            have hhl : 10 ≤ (b.drop (6 + 7 * k)).length := by simp; omega
            generalize b.drop (6 + 7 * k) = hs at *
            generalize 6 + 7 * k = q at *
            generalize c - q = cq at *
            have wq : (0 : Int) ≤ (q : Int) := by omega
            obtain ⟨A1', c1', he, _, _, _, gr⟩ := HR1.out
            simp at he
            obtain ⟨rfl, rfl⟩ := he
            obtain ⟨gh, oh, rfl, hcell⟩ := u8_plain gr (by omega)
            have hm := fun i (hi : i < hs.length) => cell_same (hcell i hi) (HB.out.block _ (cell_lt (hcell i hi)))
            have hc0 := hm 0 (by omega)
            have hc1 := hm 1 (by omega)
            have hc2 := hm 2 (by omega)
            have hc3 := hm 3 (by omega)
            rw [Nat.add_zero] at hc0
            have HK : Hid (∀ W, Below w.heap.size w W → W.cell? ⟨gh, oh, none⟩ = some (.int .u8 (hs[0].toNat : Int))) :=
              Lib.hid (fun W h => by have := cell_same (hcell 0 (by omega)) (h.block _ (cell_lt (hcell 0 (by omega)))); rwa [Nat.add_zero] at this)
            have HG0 := Lib.hid (getD_at hs 0 (by omega))
            have hor := (num_cells (h := hs) (by omega)).symm
            have hnum := num_lt (hs.drop 1)
            have HSt := Lib.hid (secs_step m hs (b.drop t))
            have HSs := Lib.hid (secs_stop m hs (b.drop t))
            clear hm hcell gr HR1
            generalize num (hs.drop 1) = sz at *
            have b1 := hs[1].toNat_lt
            have b2 := hs[2].toNat_lt
            have b3 := hs[3].toNat_lt
            have b0 := hs[0].toNat_lt
            generalize hs[0] = x0 at *
            generalize hs[1] = x1 at *
            generalize hs[2] = x2 at *
            generalize hs[3] = x3 at *
            have v1 : IntKind.i64.wrap (x1.toNat : Int) = (x1.toNat : Int) := by rw [IntKind.wrap_i64]; omega
            have v2 : IntKind.i64.wrap (x2.toNat : Int) = (x2.toNat : Int) := by rw [IntKind.wrap_i64]; omega
            have v3 : IntKind.i64.wrap (x3.toNat : Int) = (x3.toNat : Int) := by rw [IntKind.wrap_i64]; omega
            have v4 : IntKind.i64.wrap ((x1.toNat : Int) * 65536) = (x1.toNat : Int) * 65536 := by rw [IntKind.wrap_i64]; omega
            have v5 : IntKind.i64.wrap ((x2.toNat : Int) * 256) = (x2.toNat : Int) * 256 := by rw [IntKind.wrap_i64]; omega
            have j1 : (1 : Int) < (hs.length : Int) := by omega
            have j2 : (2 : Int) < (hs.length : Int) := by omega
            have j3 : (3 : Int) < (hs.length : Int) := by omega
            go_wp2_with fail
            go_quiet (fail)
            by_cases hsz : b.length - t < sz
            · have hd : decide ((b.length : Int) - (t : Int) < (sz : Int)) = true := decide_eq_true (by omega)
              have HN : Hid (Reads b none) := Lib.hid (reads_of_parse_none (by rw [HParse.out, HI.out, HSs.out (by simp; omega)]; rfl))
              go_wp2_with fail
              go_ret2
              exact ⟨bel_drewN HB.out _, none, HN.out, rfl⟩
            · have hd : decide ((b.length : Int) - (t : Int) < (sz : Int)) = false := decide_eq_false (by omega)
              clear j1 j2 j3 v1 v2 v3 v4 v5 b1 b2 b3 hc1 hc2 hc3 hc0
              have HS' := Lib.hid (HSt.out (by simp; omega))
              rw [HG0.out] at HS'
              obtain ⟨A2, hcu, -, -, hrow⟩ := Kd.cut_run (P := Try.prog) byteK 22 5 Try.underlying22 cellsB (.int .u8 0) 1 info_u8 (some ⟨ba, off, none⟩) b.length c t (t + sz) (by omega) (by omega) h1 HC.out h3
              have HQ := Lib.hid (hrow w _ b rfl HR.out)
              have hq : ∀ (kl kh : IntKind) (w : World), (Instr.slice 22 (.slice (some ⟨ba, off, none⟩) b.length c) (some (.int kl t)) (some (.int kh (t + sz))) none).run Try.prog w = .ok (.slice A2 sz (c - t)) w := fun kl kh w => by
                have := hcu kl kh w
                rwa [Nat.add_sub_cancel_left, Int.natCast_add] at this
              have hbd : (b.take (t + sz)).drop t = (b.drop t).take sz := by rw [List.drop_take, Nat.add_sub_cancel_left]
              rw [hbd, Nat.add_sub_cancel_left] at HQ
              have hbt : ((b.drop t).take sz).length = sz := by simp; omega
              have HI' : Hid (secs n (b.drop 6) (b.drop t0) = (secs m (hs.drop 7) (b.drop (t + sz))).map ((ls ++ [((x0.toNat : Int), (b.drop t).take sz)]) ++ ·)) := by
                refine Lib.hid ?_
                rw [HI.out, HS'.out, Option.map_map, List.drop_drop]
                congr 1
                funext q
                simp
              rw [← HNx.out] at HI'
              clear hcu hrow HSt HSs HS' HI HG0 hbd
              generalize (b.drop t).take sz = body at *
              subst hbt
              have wts : IntKind.i64.wrap ((t : Int) + (body.length : Int)) = (t : Int) + (body.length : Int) := by rw [IntKind.wrap_i64]; omega
              have HTL' : Hid (t + body.length = t0 + total (ls ++ [((x0.toNat : Int), body)])) := Lib.hid (by rw [total_append, HTL.out]; simp [total]; omega)
              have htl' : t + body.length ≤ b.length := by omega
              have wx : IntKind.i64.wrap (x0.toNat : Int) = (x0.toNat : Int) := by rw [IntKind.wrap_i64]; omega
              have hl0 : 0 < hs.length := by omega
              have ha0 : (0 : Int) ≤ (t : Int) := by omega
              generalize c - t = ct at *
              go_wp2_with fail
              generalize hwy : World.drewN _ _ = wy at *
              have HOd : Hid (secK.own 42 wy w.heap.size (fun k => w.heap.size ≤ k) u6 ls) := Lib.hid (by subst hwy; exact Kd.own_move (w := wr) (fun _ _ _ => rfl) HO.out)
              have HBd : Hid (Below w.heap.size w wy) := Lib.hid (by subst hwy; exact bel_drewN HB.out _)
              clear hwy HO HB
              go_cut [6] (fun v6 wx => Hid (secK.own 42 wx w.heap.size (fun k => w.heap.size ≤ k) v6 (ls ++ [((x0.toNat : Int), body)])) ∧ Hid (Below w.heap.size w wx))
              case first =>
                have hB := HBd.out
                have hY := Below.refl wy.heap.size wy
                have hQ := byteK.sl.M_old HQ.out hB
                go_region_held3 (fun w' => w'.cell? ⟨gh, oh, none⟩ = some (.int .u8 (x0.toNat : Int)))
                  (exact HK.out _ (by (repeat (first | assumption | refine bel_alloc ?_ _ | refine bel_drew ?_))))
                  (first
                    | (refine Kd.own_app_step byteK (w0 := wy) wy.heap.size (by rfl) (.tmp 70) (.tmp 76) 22 5 (.int .u8 0) 1 (by rfl) Try.underlying22 info_u8 rfl (by decide) (.slice (some ⟨wy.heap.size, 0, none⟩) 0 0) [] body A2 ct T (by rfl) (by rfl) ?ho (.inr ⟨?hr, any_u8⟩) ?hb ?hs ?hl ?_; go_loud (case hl => simp; omega); go_loud (case ho => repeat (first | exact Kd.own_block (cells := []) (xs := []) (Nat.le_refl _) (Kd.heap_new _ _) rfl (by simp) (fun i x h => by simp at h) | refine Kd.own_drew ?_ | refine Kd.own_alloc ?_ _)); go_loud (case hr => exact byteK.sl.mono (fun _ _ _ => trivial) (byteK.sl.M_old HQ.out (by (repeat (first | assumption | refine bel_alloc ?_ _ | refine bel_drew ?_))))); go_loud (case hb => repeat (first | assumption | refine bel_alloc ?_ _ | refine bel_drew ?_)); go_loud (case hs => simp); intro v1 w1 ho1 hb1 hg1 hv1; go_loud (rw [List.nil_append] at ho1); obtain ⟨A9, c9, rfl, _, _⟩ := Kd.own_slice ho1; have HT1 := Lib.hid ho1; have hb3 : Below w.heap.size w w1 := bel_step hB hb1; have HO2 := Lib.hid (Kd.own_below HOd.out hb1); clear ho1 hg1 hv1)
                    | (refine Kd.own_app_step secK (w0 := w) w.heap.size (by rfl) (.tmp 65) (.tmp 79) 34 42 (.agg #[.int .i64 0, .slice none 0 0]) 32 (by rfl) Try.underlying34 info_sec rfl (by decide) u6 ls [((x0.toNat : Int), body)] (some ⟨w1.heap.size, 0, none⟩) 1 (fun k => w.heap.size ≤ k) (by rfl) (by rfl) ?ho (.inl ?hr) ?hb ?hs ?hl ?_; go_loud (case hl => simp; omega); go_loud (case ho => repeat (first | exact HO2.out | refine Kd.own_alloc ?_ _ | refine Kd.own_drew ?_)); go_loud (case hr => exact sec_row HT1.out hB.size (fun k hk => (Kd.own_lt HOd.out k hk).2) hb1.size ⟨by omega, by omega⟩ (by (repeat (first | exact Below.refl _ _ | refine bel_alloc ?_ _ | refine bel_drew ?_))) (by repeat (first | exact Kd.bi_new (by simp) | refine Kd.bi_old ?_ | refine Kd.bi_drew ?_))); go_loud (case hb => repeat (first | assumption | refine bel_alloc ?_ _ | refine bel_drew ?_)); go_loud (case hs => have := hb3.size; simp; omega); intro v4 w4 ho4 hb4 hg4 hv4; have HO4 := Lib.hid ho4; clear ho4 hg4 hv4)
                    | fail)
                go_wp2_with fail
                go_meet
                exact ⟨HO4, Lib.hid hb4⟩
              case rest =>
                obtain ⟨HO, HB⟩ := hcut
                clear HOd HBd
                go_wp2_with fail
                go_roundw
                case rel => exact ⟨k + 1, t + body.length, ls ++ [((x0.toNat : Int), body)], by omega, by go_num, by go_num, htl', HTL', Lib.hid (by rw [HI'.out, show n - (k + 1) = m by omega]), by simp; omega, HO, HB⟩
                case measure => simp [intOf]; omega
          · obtain rfl : k = n := by omega
            have hdl : decide (k < k) = false := by simp
            have HPr : Hid (parse b = some ls) := Lib.hid (by rw [HParse.out, HI.out, Nat.sub_self]; simp [secs])
            have HRd := Lib.hid (reads_of_parse HPr.out)
            have HMs : Hid (secK.sl.M wr T ls [u6]) := Lib.hid (Kd.own_sl HO.out (fun _ _ => trivial) (fun _ _ => trivial))
            have HPk := Lib.hid (refpack_calls ls (by have := HTL.out; omega) u6 wr HMs.out)
            go_wp2_with fail
            refine HPk.out.mono ?_
            clear HPk HMs
            rintro e w1 ⟨hb1, hr1⟩
            have HB1 := Lib.hid (bel_step HB.out hb1)
            have HO1 := Lib.hid (Kd.own_below HO.out hb1)
            rcases hr1 with ⟨hMay, vp, rfl, hop⟩ | ⟨hMay, rfl⟩
            · have HOp := Lib.hid hop
              clear hop hb1
              have HMay := Lib.hid hMay
              clear hMay
              have HRd' : Hid (Reads b (if file ls = b then some ls else none)) := Lib.hid (by
                have := HRd.out
                by_cases hf : file ls = b
                · rw [if_pos ⟨HMay.out, hf⟩] at this
                  rw [if_pos hf]; exact this
                · rw [if_neg (fun h => hf h.2)] at this
                  rw [if_neg hf]; exact this)
              generalize file ls = fl at *
              obtain ⟨Ap, cp, hvp, _, _, _, hrp⟩ := Kd.own_sl (ok' := T) HOp.out (fun _ _ => trivial) (fun _ _ => trivial)
              simp at hvp
              subst hvp
              have k1 := conv_string (P := Try.prog) (w := w1) (c := cp) Try.underlying22 Try.underlying5 Try.underlying9 hrp
              have k2 := conv_string (P := Try.prog) (w := w1) (c := c) Try.underlying22 Try.underlying5 Try.underlying9 (Kd.row_old HR.out HB1.out)
              have he := mkS_beq fl b
              clear hrp
              by_cases hf : fl = b
              · have hd : (fl == b) = true := by simp [hf]
                rw [if_pos hf] at HRd'
                rw [hd] at he
                generalize mkS fl = s1 at *
                generalize mkS b = s2 at *
                clear hf hd
                go_wp2_with fail
                go_ret2
                exact ⟨HB1.out, some ls, HRd'.out, _, rfl, HO1.out⟩
              · have hd : (fl == b) = false := by simp [hf]
                rw [if_neg hf] at HRd'
                rw [hd] at he
                generalize mkS fl = s1 at *
                generalize mkS b = s2 at *
                clear hf hd
                go_wp2_with fail
                go_ret2
                exact ⟨HB1.out, none, HRd'.out, rfl⟩
            · have HRd' : Hid (Reads b none) := Lib.hid (by
                have := HRd.out
                rwa [if_neg (fun h => hMay h.1)] at this)
              go_wp2_with fail
              go_ret2
              exact ⟨HB1.out, none, HRd'.out, rfl⟩
end Go.Proofs.Ytimjllokibnibaa.BoxRefUn
