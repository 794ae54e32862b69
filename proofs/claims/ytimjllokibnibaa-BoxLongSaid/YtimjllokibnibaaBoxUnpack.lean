/-
  What box.Unpack answers.
-/
import Derived.Test.YtimjllokibnibaaBoxRef
set_option linter.unusedVariables false
set_option linter.unusedSimpArgs false
namespace Go.Proofs.Ytimjllokibnibaa.BoxUnpack
open Go.RowKit Go.Proofs.Ytimjllokibnibaa.CrcPure Go.Proofs.Ytimjllokibnibaa.BoxPure Go.Proofs.Ytimjllokibnibaa.B Go.Proofs.Ytimjllokibnibaa.CrcWalk Go.Proofs.Ytimjllokibnibaa.CrcLaws Go.Proofs.Ytimjllokibnibaa.BoxWalk Go.Proofs.Ytimjllokibnibaa.BoxPack Go.Proofs.Ytimjllokibnibaa.BoxRef

def UnpackPost (b : List UInt8) (w : World) (e : Ending) (w' : World) : Prop :=
  Below w.heap.size w w' ∧ ∃ r : Option (List Sec), Reads b r ∧ match r with
    | none => e = .returned (.tuple #[.slice none 0 0, .int .i64 2])
    | some l => ∃ v, e = .returned (.tuple #[v, .int .i64 0]) ∧ secK.own 42 w' w.heap.size (fun k => w.heap.size ≤ k) v l

theorem info_sec : (Try.prog.info? 42).map (fun i => (i.zero, i.size, i.bytes)) = some (some (.agg #[.int .i64 0, .slice none 0 0]), 2, 32) := by kernel_rfl
theorem cellsB : Try.prog.cellsOf 5 = 1 := by kernel_rfl

/-- The parse, from a round on. -/
theorem secs_step (n : Nat) (h b : List UInt8) (hb : num (h.drop 1) ≤ b.length) : secs (n + 1) h b = (secs n (h.drop 7) (b.drop (num (h.drop 1)))).map fun l => (((h.getD 0 0).toNat : Int), b.take (num (h.drop 1))) :: l := by
  rw [secs, if_neg (by omega)]
theorem secs_stop (n : Nat) (h b : List UInt8) (hb : b.length < num (h.drop 1)) : secs (n + 1) h b = none := by
  rw [secs, if_pos hb]

theorem own_any {e : TypeId} {w : World} {base : Nat} {ok ok' : Nat → Prop} {v : Value} {xs : List UInt8} (h : byteK.own e w base ok v xs) : byteK.own e w base ok' v xs := by
  obtain ⟨h0, cells, h1, h2⟩ := h
  exact ⟨h0, cells, h1, fun i x hx => any_u8 _ _ _ _ _ (h2 i x hx)⟩
theorem sl_cut {w : World} {ok : Nat → Prop} {g o c j : Nat} {hs : List UInt8} (h1 : hs.length ≤ c) (h2 : hs.length ≤ 140737488355328 ∧ c ≤ maxLen) (gr : byteK.row w ok (some ⟨g, o, none⟩) hs) :
    byteK.sl.M w ok (hs.drop j) [.slice (some ⟨g, o + j, none⟩) (hs.length - j) (c - j)] := by
  have := Kd.u8_sl (l := hs.drop j) (c := c - j) (A := some ⟨g, o + j, none⟩) (by simp; omega) (by simp; omega) (fun h => by cases h) (by
    have := Kd.row_drop gr j
    rwa [show (some (⟨g, o, none⟩ : Addr)).map (·.add (j * byteK.sz)) = some ⟨g, o + j, none⟩ from congrArg some ((Addr.add_lit g o (j * byteK.sz)).trans (by rw [show j * byteK.sz = j from Nat.mul_one j]))] at this)
  rwa [List.length_drop] at this
theorem sec_row {w2 W' : World} {u7 v2 : Value} {body : List UInt8} {n : Int} {base wc : Nat} (HT : byteK.own 5 w2 wc T v2 body) (h0 : base ≤ wc) (hlt : ∀ k, u7.ownBlock = some k → k < wc)
    (hwc : wc ≤ w2.heap.size) (hid : 0 ≤ n ∧ n ≤ 255) (hb : Below w2.heap.size w2 W') (hC : Kd.bi W' w2.heap.size #[.int .i64 n, v2]) :
    secK.sl.M W' (fun k => base ≤ k ∧ some k ≠ u7.ownBlock) [(n, body)] [.slice (some ⟨w2.heap.size, 0, none⟩) 1 1] := by
  have hM : byteK.sl.M W' (fun k => base ≤ k ∧ some k ≠ u7.ownBlock) body [v2] :=
    Kd.own_sl (Kd.own_below (own_any (ok' := fun _ => False) HT) hb) (fun k hk => ⟨by omega, fun e => by have := hlt k e.symm; omega⟩) (fun k hk => hk.elim)
  have hR : secK.row W' (fun k => base ≤ k ∧ some k ≠ u7.ownBlock) (some ⟨w2.heap.size, 0, none⟩) [(n, body)] :=
    Kd.row_one (d := secK) hC ⟨by omega, fun e => by have := hlt _ e.symm; omega⟩ (show secK.M W' _ (n, body) [.int .i64 n, v2] from ⟨[.int .i64 n], [v2], rfl, ⟨rfl, by dsimp only; omega⟩, hM⟩)
  exact ⟨_, 1, rfl, by simp, ⟨by simp, by simp [maxLen]⟩, (fun h => by cases h), hR⟩

set_option maxRecDepth 100000 in
set_option maxHeartbeats 3200000 in
theorem unpack_calls (b : List UInt8) (v : Value) (w : World) (m : byteK.sl.M w T b [v]) :
    Calls Try.prog 24 #[v] w (UnpackPost b w) := by
  obtain ⟨A, c, hv, h1, h2, h3, hr0⟩ := m
  simp at hv
  subst hv
  have HR := Lib.hid (Kd.row_mono (ok' := fun k => k < w.heap.size) (fun k _ hk => hk) hr0)
  have HM := Lib.hid (Kd.u8_sl h1 h2 h3 hr0)
  clear hr0
  obtain ⟨hb47, h2'⟩ := h2
  have HC := Lib.hid h2'
  clear h2'
  by_cases c6 : b.length < 6
  · have q1 : decide ((b.length : Int) < 6) = true := decide_eq_true (by omega)
    have HN := Lib.hid (reads_short (b := b) (.inl (by omega)))
    go_enter Try.func24, Try.ntmps24
    go_wp2
    go_ret2
    exact ⟨Below.refl _ _, none, HN.out, rfl⟩
  · have q1 : decide ((b.length : Int) < 6) = false := decide_eq_false (by omega)
    obtain ⟨ba, off, rfl, hcell⟩ := u8_plain HR.out (by omega)
    have hc5 := hcell 5 (by omega)
    have HG : Hid (b.getD 5 0 = b[5]) := Lib.hid (getD_at b 5 (by omega))
    have hn5 := b[5].toNat_lt
    clear hcell
    have i5 : (5 : Int) < (b.length : Int) := by omega
    generalize hbn : b[5] = bn at *
    clear hbn
    by_cases cl : b.length < 9 + 7 * bn.toNat
    · have q2 : decide ((b.length : Int) < 6 + 7 * (bn.toNat : Int) + 3) = true := decide_eq_true (by omega)
      have HN := Lib.hid (reads_short (b := b) (.inr (.inl (by rw [HG.out]; exact cl))))
      go_enter Try.func24, Try.ntmps24
      go_wp2
      go_ret2
      exact ⟨Below.refl _ _, none, HN.out, rfl⟩
    · have q2 : decide ((b.length : Int) < 6 + 7 * (bn.toNat : Int) + 3) = false := decide_eq_false (by omega)
      generalize hnn : bn.toNat = n at *
      obtain ⟨A1, -, hcu1, -, hrow1⟩ := Kd.cut_run (P := Try.prog) byteK 22 5 Try.underlying22 cellsB (.int .u8 0) 1 info_u8 (some ⟨ba, off, none⟩) b.length c 6 b.length (by omega) (Nat.le_refl _) h1 ⟨hb47, HC.out⟩ h3
      obtain ⟨A2, -, hcu2, -, hrow2⟩ := Kd.cut_run (P := Try.prog) byteK 22 5 Try.underlying22 cellsB (.int .u8 0) 1 info_u8 (some ⟨ba, off, none⟩) b.length c (9 + 7 * n) b.length (by omega) (Nat.le_refl _) h1 ⟨hb47, HC.out⟩ h3
      have hs1 : ∀ (kl : IntKind) (w : World), (Instr.slice 22 (.slice (some ⟨ba, off, none⟩) b.length c) (some (.int kl 6)) none none).run Try.prog w = .ok (.slice A1 (b.length - 6) (c - 6)) w := fun kl w => hcu1 kl w rfl
      have hs2 : ∀ (kl : IntKind) (w : World), (Instr.slice 22 (.slice (some ⟨ba, off, none⟩) b.length c) (some (.int kl (6 + 7 * (n : Int) + 3))) none none).run Try.prog w = .ok (.slice A2 (b.length - (9 + 7 * n)) (c - (9 + 7 * n))) w := fun kl w => by
        have := hcu2 kl w rfl
        rw [show ((9 + 7 * n : Nat) : Int) = 6 + 7 * (n : Int) + 3 by omega] at this
        exact this
      have HR1 := Lib.hid (hrow1 w _ b rfl HR.out)
      have HR2 := Lib.hid (hrow2 w _ b rfl HR.out)
      clear hcu1 hcu2 hrow1 hrow2
      have ww : IntKind.i64.wrap (7 * (n : Int)) = 7 * (n : Int) := by rw [IntKind.wrap_i64]; omega
      have ww2 : IntKind.i64.wrap (6 + 7 * (n : Int)) = 6 + 7 * (n : Int) := by rw [IntKind.wrap_i64]; omega
      have ww3 : IntKind.i64.wrap (6 + 7 * (n : Int) + 3) = 6 + 7 * (n : Int) + 3 := by rw [IntKind.wrap_i64]; omega
      go_enter Try.func24, Try.ntmps24
      go_upto_region 6 with fail
      go_quiet (fail)
      go_wp2_with fail
      have HB0 := Lib.hid (bel_drewN (Below.refl w.heap.size w) nq)
      have HI0 : Hid (secs n (b.drop 6) (b.drop (9 + 7 * n)) = (secs (n - 0) (b.drop 6) (b.drop (9 + 7 * n))).map ([] ++ ·)) := by
        refine Lib.hid ?_
        simp
      have hl1 : 7 * (n - 0) + 3 ≤ (b.drop 6).length := by simp; omega
      have hl2 : (b.drop (9 + 7 * n)).length ≤ 140737488355328 := by simp; omega
      rw [List.take_length] at HR1 HR2
      rw [show b.length - 6 = (b.drop 6).length by simp] at *
      rw [show b.length - (9 + 7 * n) = (b.drop (9 + 7 * n)).length by simp] at *
      have HParse : Hid (parse b = secs n (b.drop 6) (b.drop (9 + 7 * n))) := by
        refine Lib.hid ?_
        unfold parse
        rw [HG.out, hnn]
      have hn255 : n ≤ 255 := by omega
      clear hs1 hs2 ww ww2 ww3 q1 q2 hc5 i5 hnn HG hn5 c6 cl
      generalize c - 6 = c1 at *
      generalize c - (9 + 7 * n) = c2 at *
      generalize hH : b.drop 6 = H0 at *
      generalize hB : b.drop (9 + 7 * n) = B0 at *
      clear hH hB
      go_loopw [5, 6, 7, 34] (fun v5 v6 v7 vi wr => ∃ (k : Nat) (hs bs : List UInt8) (ls : List Sec), k ≤ n ∧ vi = .int .i64 k ∧ Hid (byteK.sl.M w (fun k => k < w.heap.size) hs [v5]) ∧ Hid (byteK.sl.M w (fun k => k < w.heap.size) bs [v6]) ∧
        7 * (n - k) + 3 ≤ hs.length ∧ bs.length ≤ 140737488355328 ∧ Hid (secs n H0 B0 = (secs (n - k) hs bs).map (ls ++ ·)) ∧ ls.length = k ∧ Hid (secK.own 42 wr w.heap.size (fun k => w.heap.size ≤ k) v7 ls) ∧ Hid (Below w.heap.size w wr)) (fun _ _ _ vi _ => n - (intOf vi).toNat)
      case atStart => exact ⟨0, H0, B0, [], by omega, rfl, HR1, HR2, hl1, hl2, HI0, rfl, Lib.hid (Kd.own_nil _ _ _ _ _), HB0⟩
      case round =>
        clear HR1 HR2 hl1 hl2 HI0 HB0 nq
        obtain ⟨k, hs, bs, ls, hk, rfl, HHs, HBs, hhl, hbl, HI, hls, HO, HB⟩ := hrel
        by_cases hlt : k < n
        · obtain ⟨Ah, ch, hv, g1, g2, g3, gr⟩ := HHs.out
          simp at hv
          subst hv
          obtain ⟨Ab, cb, hv, e1, e2, e3, er⟩ := HBs.out
          simp at hv
          subst hv
          have hdl : decide ((k : Int) < (n : Int)) = true := decide_eq_true (by omega)
          obtain ⟨m, hm⟩ : ∃ m, n - k = m + 1 := ⟨n - k - 1, by omega⟩
          rw [hm] at HI
          obtain ⟨gh, oh, rfl, hcell⟩ := u8_plain gr (by omega)
          have hc0 := hcell 0 (by omega)
          clear hcell
          rw [Nat.add_zero] at hc0
          have HG0 := Lib.hid (getD_at hs 0 (by omega))
          have HQ1 := Lib.hid (sl_cut (j := 1) g1 g2 gr)
          have HQ7 := Lib.hid (sl_cut (j := 7) g1 g2 gr)
          have hl0 : 0 < hs.length := by omega
          have hlh : 7 * (n - (k + 1)) + 3 ≤ (hs.drop 7).length := by simp; omega
          have HNC := fun (wx : World) (h : Below w.heap.size w wx) => number_calls (hs.drop 1) (by simp; omega) _ _ wx (byteK.sl.M_old HQ1.out h)
          clear gr HHs HQ1
          go_wp2_with fail
          refine (HNC _ HB.out).mono ?_
          rintro e wn ⟨rfl, nq, rfl⟩
          clear HNC
          have hnum := num_lt (hs.drop 1)
          have HSt := Lib.hid (secs_step m hs bs)
          have HSs := Lib.hid (secs_stop m hs bs)
          generalize num (hs.drop 1) = sz at *
          by_cases hsz : bs.length < sz
          · have hd : decide (bs.length < sz) = true := decide_eq_true hsz
            have HN : Hid (Reads b none) := Lib.hid (reads_of_parse_none (by rw [HParse.out, HI.out, HSs.out hsz]; rfl))
            go_wp2_with fail
            go_ret2
            exact ⟨bel_drewN HB.out _, none, HN.out, rfl⟩
          · have hd : decide (bs.length < sz) = false := decide_eq_false hsz
            have hx0 := hs[0].toNat_lt
            have HS' := Lib.hid (HSt.out (by omega))
            rw [HG0.out] at HS'
            have hbt : (bs.take sz).length = sz := by simp; omega
            obtain ⟨Ab1, -, -, hcub, hrowb⟩ := Kd.cut_run (P := Try.prog) byteK 22 5 Try.underlying22 cellsB (.int .u8 0) 1 info_u8 Ab bs.length cb 0 sz (by omega) (by omega) e1 e2 e3
            have hqb := fun (kl : IntKind) (w : World) => hcub kl w rfl
            have HQb := Lib.hid (hrowb w _ bs rfl er)
            obtain ⟨Ab2, -, hcur, -, hrowr⟩ := Kd.cut_run (P := Try.prog) byteK 22 5 Try.underlying22 cellsB (.int .u8 0) 1 info_u8 Ab bs.length cb sz bs.length (by omega) (Nat.le_refl _) e1 e2 e3
            have hqr := fun (kl : IntKind) (w : World) => hcur kl w rfl
            have HQr := Lib.hid (hrowr w _ bs rfl er)
            rw [List.take_length] at HQr
            rw [List.drop_zero] at HQb
            simp only [Nat.sub_zero] at hqb HQb
            rw [show bs.length - sz = (bs.drop sz).length by simp] at hqr HQr
            have hrl : (bs.drop sz).length ≤ 140737488355328 := by simp; omega
            have HI' : Hid (secs n H0 B0 = (secs m (hs.drop 7) (bs.drop sz)).map ((ls ++ [((hs[0].toNat : Int), bs.take sz)]) ++ ·)) := by
              refine Lib.hid ?_
              rw [HI.out, HS'.out, Option.map_map]
              congr 1
              funext q
              simp
            clear hcub hrowb hcur hrowr HSt HSs HS' HI HG0 er
            generalize cb - sz = cr at *
            generalize bs.drop sz = rest at *
            generalize bs.take sz = body at *
            subst hbt
            generalize hs.drop 7 = hs7 at *
            generalize hs[0] = x0 at *
            have HOd : Hid (secK.own 42 (wr.drewN nq) w.heap.size (fun k => w.heap.size ≤ k) u7 ls) := Lib.hid (Kd.own_move (w := wr) (w1 := wr.drewN nq) (fun _ _ _ => rfl) HO.out)
            have HBd := Lib.hid (bel_drewN HB.out nq)
            generalize wr.drewN nq = wy at *
            clear HO HB
            go_wp2_with fail
            go_cut [7] (fun v7 wx => Hid (secK.own 42 wx w.heap.size (fun k => w.heap.size ≤ k) v7 (ls ++ [((x0.toNat : Int), body)])) ∧ Hid (Below w.heap.size w wx))
            case first =>
              have hB := HBd.out
              have wx : IntKind.i64.wrap (x0.toNat : Int) = (x0.toNat : Int) := by rw [IntKind.wrap_i64]; omega
              have HClone : Hid (∀ W, Below w.heap.size w W → Calls Try.prog 32 #[.slice Ab1 body.length cb] W (NewBytes body W)) :=
                Lib.hid (fun W h => clone_calls body _ W (byteK.sl.mono (fun _ _ _ => trivial) (byteK.sl.M_old HQb.out h)))
              go_region_held3 (fun w' => w'.cell? ⟨gh, oh, none⟩ = some (.int .u8 (x0.toNat : Int)))
                (exact cell_same hc0 ((show Below w.heap.size w _ by (repeat (first | assumption | refine bel_alloc ?_ _ | refine bel_drew ?_))).block _ (cell_lt hc0)))
                (first
                  | (go_at_call 32; go_loud (refine (HClone.out _ (by (repeat (first | exact hB | refine bel_drew ?_)))).mono ?_); rintro e w2 ⟨v2, rfl, ho2, hb2⟩; obtain ⟨A9, c9, rfl, _, _⟩ := Kd.own_slice ho2; have HT := Lib.hid ho2; have hb3 : Below w.heap.size w w2 := bel_step (by (repeat (first | exact hB | refine bel_drew ?_))) hb2; have HO2 : Hid (secK.own 42 w2 w.heap.size (fun k => w.heap.size ≤ k) u7 ls) := Lib.hid (Kd.own_below (by (repeat (first | exact HOd.out | refine Kd.own_drew ?_))) hb2); clear ho2)
                  | (refine Kd.own_app_step secK (w0 := w) w.heap.size (by rfl) (.tmp 43) (.tmp 53) 34 42 (.agg #[.int .i64 0, .slice none 0 0]) 32 (by rfl) Try.underlying34 info_sec rfl (by decide) u7 ls [((x0.toNat : Int), body)] (some ⟨w2.heap.size, 0, none⟩) 1 (fun k => w.heap.size ≤ k) (by rfl) (by rfl) ?ho (.inl ?hr) ?hb ?hs ?hl ?_; go_loud (case hl => simp; omega); go_loud (case ho => repeat (first | exact HO2.out | refine Kd.own_alloc ?_ _ | refine Kd.own_drew ?_)); go_loud (case hr => exact sec_row HT.out hB.size (fun k hk => (Kd.own_lt HOd.out k hk).2) hb2.size ⟨by omega, by omega⟩ (by (repeat (first | exact Below.refl _ _ | refine bel_alloc ?_ _ | refine bel_drew ?_))) (by repeat (first | exact Kd.bi_new (by simp) | refine Kd.bi_old ?_ | refine Kd.bi_drew ?_))); go_loud (case hb => repeat (first | assumption | refine bel_alloc ?_ _ | refine bel_drew ?_)); go_loud (case hs => have := hb3.size; simp; omega); intro v4 w4 ho4 hb4 hg4 hv4; have HO4 := Lib.hid ho4; clear ho4 hg4 hv4)
                  | fail)
              go_wp2_with fail
              go_meet
              exact ⟨HO4, Lib.hid hb4⟩
            case rest =>
              clear HOd HBd
              obtain ⟨HO, HB⟩ := hcut
              go_upto_region 14 with fail
              go_quiet (fail)
              go_wp2_with fail
              go_roundw
              case rel => exact ⟨k + 1, hs7, rest, ls ++ [((x0.toNat : Int), body)], by omega, by go_num, HQ7, HQr, hlh, hrl, Lib.hid (by rw [HI'.out, show n - (k + 1) = m by omega]), by simp; omega, Lib.hid (Kd.own_move (w := wc) (fun _ _ _ => rfl) HO.out), Lib.hid (bel_drewN HB.out _)⟩
              case measure => simp [intOf]; omega
        · obtain rfl : k = n := by omega
          have hdl : decide ((k : Int) < (k : Int)) = false := by simp
          have HPr : Hid (parse b = some ls) := Lib.hid (by rw [HParse.out, HI.out, Nat.sub_self]; simp [secs])
          have HRd := Lib.hid (reads_of_parse HPr.out)
          have HMs : Hid (secK.sl.M wr T ls [u7]) := Lib.hid (Kd.own_sl HO.out (fun _ _ => trivial) (fun _ _ => trivial))
          have HPk := Lib.hid (pack_calls ls u7 wr HMs.out)
          go_wp2_with fail
          refine HPk.out.mono ?_
          clear HPk HMs
          rintro e w1 ⟨hb1, hr1⟩
          have HB1 := Lib.hid (bel_step HB.out hb1)
          have HO1 := Lib.hid (Kd.own_below HO.out hb1)
          rcases hr1 with ⟨hMay, vp, rfl, hop⟩ | ⟨hMay, rfl⟩
          · have HOp := Lib.hid hop
            clear hop hb1
            have HMay := Lib.hid hMay
            clear hMay
            have HRd' : Hid (Reads b (if file ls = b then some ls else none)) := Lib.hid (by
              have := HRd.out
              by_cases hf : file ls = b
              · rw [if_pos ⟨HMay.out, hf⟩] at this
                rw [if_pos hf]; exact this
              · rw [if_neg (fun h => hf h.2)] at this
                rw [if_neg hf]; exact this)
            generalize file ls = fl at *
            have HEq := Lib.hid (fun (W : World) (h : Below w1.heap.size w1 W) => equal_calls fl b vp (.slice (some ⟨ba, off, none⟩) b.length c) T T W (Kd.own_sl (Kd.own_below HOp.out h) (fun _ _ => trivial) (fun _ _ => trivial)) (Kd.M_below HM.out (bel_step HB1.out h)))
            obtain ⟨Ap, cp, rfl, _, _⟩ := Kd.own_slice HOp.out
            go_wp2_with fail
            refine (HEq.out _ (Below.refl _ _)).mono ?_
            rintro e w2 ⟨rfl, rfl⟩
            by_cases hf : fl = b
            · have hd : (fl == b) = true := by simp [hf]
              rw [if_pos hf] at HRd'
              rw [hd]
              go_wp2_with fail
              go_ret2
              exact ⟨HB1.out, some ls, HRd'.out, _, rfl, HO1.out⟩
            · have hd : (fl == b) = false := by simp [hf]
              rw [if_neg hf] at HRd'
              rw [hd]
              go_wp2_with fail
              go_ret2
              exact ⟨HB1.out, none, HRd'.out, rfl⟩
          · have HRd' : Hid (Reads b none) := Lib.hid (by
              have := HRd.out
              rwa [if_neg (fun h => hMay h.1)] at this)
            go_wp2_with fail
            go_ret2
            exact ⟨HB1.out, none, HRd'.out, rfl⟩
end Go.Proofs.Ytimjllokibnibaa.BoxUnpack
