/-
  What the reference of box answers.
-/
import Derived.Test.YtimjllokibnibaaBoxPack
import Derived.Deep.RegionHeld3
set_option linter.unusedVariables false
set_option linter.unusedSimpArgs false
namespace Go.Proofs.Ytimjllokibnibaa.BoxRef
open Go.RowKit Go.Proofs.Ytimjllokibnibaa.CrcPure Go.Proofs.Ytimjllokibnibaa.BoxPure Go.Proofs.Ytimjllokibnibaa.B Go.Proofs.Ytimjllokibnibaa.CrcWalk Go.Proofs.Ytimjllokibnibaa.CrcLaws Go.Proofs.Ytimjllokibnibaa.BoxWalk Go.Proofs.Ytimjllokibnibaa.BoxPack

/-- May, by its parts from a place on. -/
theorem may_iff (l : List Sec) : May l ↔ rising 0 l = true ∧ l.length ≤ 8 ∧ 9 + 7 * l.length + total l ≤ 100000 := by
  unfold May
  constructor
  · rintro ⟨a, b, c⟩; exact ⟨b, a, c⟩
  · rintro ⟨a, b, c⟩; exact ⟨b, a, c⟩
theorem lastID_at (l : List Sec) (k : Nat) (h : k < l.length) (hk : 0 < k) (n : Int) : lastID n (l.take k) = (l[k - 1]'(by omega)).1 := by
  obtain ⟨j, rfl⟩ : ∃ j, k = j + 1 := ⟨k - 1, by omega⟩
  exact lastID_snoc' l j (by omega) n

set_option maxRecDepth 100000 in
set_option maxHeartbeats 1600000 in
theorem may_calls (l : List Sec) (hS : total l + 10 * l.length ≤ 6000) (v : Value) (ok : Nat → Prop) (w : World) (m : secK.sl.M w ok l [v]) :
    Calls Try.prog 27 #[v] w fun e w' => e = .returned (.bool (decide (May l))) ∧ Below w.heap.size w w' := by
  obtain ⟨A, c, hv, h1, h2, h3, hr⟩ := m
  simp at hv
  subst hv
  have HR := Lib.hid hr
  clear hr
  have hl5 : l.length ≤ 600 := by omega
  go_enter Try.func27, Try.ntmps27
  go_wp2
  go_loopw [3, 4] (fun vn vi wr => ∃ (k : Nat) (S : Int), k ≤ l.length ∧ vi = .int .i64 k ∧ vn = .int .i64 S ∧ Hid (S = ((9 + 7 * l.length + total (l.take k) : Nat) : Int)) ∧ 0 ≤ S ∧ S ≤ 20000 ∧ Hid (rising 0 (l.take k) = true) ∧ Hid (Below w.heap.size w wr)) (fun _ vi _ => l.length - (intOf vi).toNat)
  case atStart => exact ⟨0, 9 + 7 * (l.length : Int), by omega, by simp, rfl, Lib.hid (by simp [total]), by omega, by omega, Lib.hid rfl, Lib.hid (Below.refl _ _)⟩
  case round =>
    obtain ⟨k, S, hk, rfl, rfl, HS, hS0, hS1, HRi, HB⟩ := hrel
    by_cases hlt : k < l.length
    · obtain ⟨b, off, A', c', rfl, hbl, hc0', hc1', hid, hbody⟩ := sec_at HR.out k hlt
      have hc0 := cell_same hc0' (HB.out.block _ (cell_lt hc0'))
      have hc1 := cell_same hc1' (HB.out.block _ (cell_lt hc1'))
      have HT1 := Lib.hid (total_snoc l k hlt)
      have HT3 := Lib.hid (rising_snoc' l k hlt 0)
      have hb47 : 9 + 7 * l.length + total (l.take k) + l[k].2.length ≤ 20000 := by
        have e1 := total_snoc l k hlt
        have e2 := total_take l (k + 1)
        omega
      have HPre : Hid (0 < k → ∃ pid : Int, wr.cell? ⟨b, off + (k - 1) * 2, none⟩ = some (.int .i64 pid) ∧ lastID 0 (l.take k) = pid) := by
        refine Lib.hid (fun hk0 => ?_)
        obtain ⟨b', off', A1, c1, he, _, hp0, _, _, _⟩ := sec_at HR.out (k - 1) (by omega)
        cases he
        exact ⟨_, cell_same hp0 (HB.out.block _ (cell_lt hp0)), lastID_at l k hlt hk0 0⟩
      have HN : Hid (rising 0 (l.take (k + 1)) = false → decide (May l) = false) := by
        refine Lib.hid (fun h => decide_eq_false (fun hM => ?_))
        rw [rising_take l (k + 1) 0 hM.2.1] at h
        cases h
      have hbl1 : l[k].2.length ≤ 20000 := by omega
      clear hc0' hc1' hbody
      generalize hx : l[k] = x at *
      clear hx
      obtain ⟨id, body⟩ := x
      dsimp only at *
      have hSb : S + body.length ≤ 20000 := by rw [HS.out]; omega
      clear hb47
      have ik : (k : Int) < (l.length : Int) := by omega
      have ik0 : (0 : Int) ≤ (k : Int) := by omega
      have in0 : (0 : Int) ≤ off := by omega
      have HG := Lib.hid (lastID_ge _ 0 HRi.out)
      by_cases c1 : id < 1
      · have d1 : decide (id < 1) = true := decide_eq_true c1
        have HFi := Lib.hid (HN.out (by
          rw [HT3.out]
          have := HG.out
          by_cases g : lastID 0 (l.take k) < id
          · omega
          · simp [g]))
        go_wp2_with fail
        go_quiet (fail)
        go_wp2
        go_ret
        exact ⟨ret_bool HFi.out.symm, bel_drewN HB.out _⟩
      · have d1 : decide (id < 1) = false := decide_eq_false c1
        by_cases c2 : 255 < id
        · have d2 : decide (255 < id) = true := decide_eq_true c2
          have HFi := Lib.hid (HN.out (by rw [HT3.out]; simp; omega))
          go_wp2_with fail
          go_quiet (fail)
          go_wp2
          go_ret
          exact ⟨ret_bool HFi.out.symm, bel_drewN HB.out _⟩
        · have d2 : decide (255 < id) = false := decide_eq_false c2
          have d5 : decide (100000 < (body.length : Int)) = false := decide_eq_false (by omega)
          by_cases hk0 : 0 < k
          · obtain ⟨pid, hp, hpid⟩ := HPre.out hk0
            have HP := Lib.hid hpid
            clear hpid
            have d3 : decide (0 < k) = true := decide_eq_true hk0
            have e0 : IntKind.i64.wrap ((k : Int) - 1) = (k : Int) - 1 := by rw [IntKind.wrap_i64]; omega
            have e1 : ((k : Int) - 1).toNat = k - 1 := by omega
            have e2 : (0 : Int) ≤ (k : Int) - 1 := by omega
            have e3 : (1 : Int) ≤ (k : Int) := by omega
            have e4 : (k : Int) - 1 < (l.length : Int) := by omega
            by_cases c4 : id ≤ pid
            · have d4 : decide (id ≤ pid) = true := decide_eq_true c4
              have HFi := Lib.hid (HN.out (by rw [HT3.out, HP.out]; simp; omega))
              go_wp2_with fail
              go_quiet (fail)
              go_wp2
              go_ret
              exact ⟨ret_bool HFi.out.symm, bel_drewN HB.out _⟩
            · have d4 : decide (id ≤ pid) = false := decide_eq_false c4
              have HR' : Hid (rising 0 (l.take (k + 1)) = true) := Lib.hid (by rw [HT3.out, HRi.out, HP.out]; simp; omega)
              go_wp2_with fail
              go_quiet (fail)
              clear e0 e1 e2 e3 e4
              go_wp2
              go_roundw
              case rel => exact ⟨k + 1, S + body.length, by omega, by go_num, rfl, Lib.hid (by rw [HT1.out, HS.out]; omega), by omega, by omega, HR', Lib.hid (bel_drewN HB.out _)⟩
              case measure => simp [intOf]; omega
          · obtain rfl : k = 0 := by omega
            have d3 : decide (0 < 0) = false := by simp
            have HR' : Hid (rising 0 (l.take (0 + 1)) = true) := Lib.hid (by rw [HT3.out]; simp [rising, lastID]; omega)
            have hl0 : 0 < l.length := hlt
            rw [Nat.zero_mul, Nat.add_zero] at hc0 hc1
            clear HPre
            go_wp2_with fail
            go_quiet (fail)
            go_wp2
            go_roundw
            case rel => exact ⟨0 + 1, S + body.length, by omega, by go_num, rfl, Lib.hid (by rw [HT1.out, HS.out]; omega), by omega, by omega, HR', Lib.hid (bel_drewN HB.out _)⟩
            case measure => simp [intOf]; omega
    · obtain rfl : k = l.length := by omega
      rw [List.take_of_length_le (Nat.le_refl _)] at *
      by_cases c8 : l.length ≤ 8
      · have d8 : decide ((l.length : Int) ≤ 8) = true := decide_eq_true (by omega)
        by_cases c9 : S ≤ 100000
        · have d9 : decide (S ≤ 100000) = true := decide_eq_true c9
          have HFi : Hid (decide (May l) = true) := Lib.hid (decide_eq_true ((may_iff l).2 ⟨HRi.out, c8, by have := HS.out; omega⟩))
          go_wp2
          go_ret
          exact ⟨ret_bool HFi.out.symm, HB.out⟩
        · omega
      · have d8 : decide ((l.length : Int) ≤ 8) = false := decide_eq_false (by omega)
        have HFi : Hid (decide (May l) = false) := Lib.hid (decide_eq_false (fun hM => c8 hM.1))
        go_wp2
        go_ret
        exact ⟨ret_bool HFi.out.symm, HB.out⟩

set_option maxRecDepth 100000 in
set_option maxHeartbeats 3200000 in
theorem refpack_calls (l : List Sec) (hS : total l + 10 * l.length ≤ 6000) (v : Value) (w : World) (m : secK.sl.M w T l [v]) :
    Calls Try.prog 22 #[v] w (PackPost l w) := by
  have HM0 := Lib.hid m
  obtain ⟨A, c, hv, h1, h2, h3, hr0⟩ := m
  simp at hv
  subst hv
  have HR := Lib.hid (Kd.row_mono (ok' := fun k => k < w.heap.size) (fun k _ hk => hk) hr0)
  clear hr0
  by_cases hM : May l
  · have hlen : l.length ≤ 8 := hM.1
    have HM := Lib.hid hM
    have hd : decide (May l) = true := decide_eq_true hM
    clear hM
    have kc := fun (w : World) (C : Array Value) (n c : Nat) => Lib.run_convert_bytes_const (P := Try.prog) w 22 5 C n c Try.underlying22 Try.underlying5
    have HL : Hid ((#[.int .u8 1, .int .u8 (l.length : Int)] : Array Value).toList = [1, UInt8.ofNat l.length].map fun c => Value.int .u8 (c.toNat : Int)) := by
      have : (#[.int .u8 1, .int .u8 (l.length : Int)] : Array Value).toList = [1, UInt8.ofNat l.length].map fun c => Value.int .u8 (c.toNat : Int) := by
        simp only [List.map_cons, List.map_nil, UInt8.toNat_ofNat']
        rw [show (((l.length % 2 ^ 8 : Nat)) : Int) = (l.length : Int) by omega]
        rfl
      exact Lib.hid this
    go_enter Try.func22, Try.ntmps22
    go_wp2_with fail
    refine (may_calls l hS _ T _ HM0.out).mono ?_
    rintro e w0 ⟨rfl, hb0⟩
    rw [hd]
    have HB0 := Lib.hid hb0
    clear hb0 hd HM0
    go_wp2_with (at_builtin; go_loud (refine Kd.own_grow byteK rfl (.tmp 11) (.tmp 15) 22 5 (.int .u8 0) 1 rfl Try.underlying22 info_u8 rfl (by decide) [84, 82, 73, 86] [1, UInt8.ofNat l.length] (some ⟨w0.heap.size, 0, none⟩) (some ⟨w0.heap.size + 1, 0, none⟩) 4 2 T rfl rfl ?hx ?hy (by simp) (by simp) (by simp) ?_); (case hx => exact Kd.u8_sl (l := [84, 82, 73, 86]) (by simp) (by simp [maxLen]) (fun h => by cases h) (Kd.row_u8 (by repeat (first | exact Kd.bi_new (by simp) | refine Kd.bi_old ?_)) trivial rfl)); (case hy => exact Kd.u8_sl (l := [1, UInt8.ofNat l.length]) (by simp) (by simp [maxLen]) (fun h => by cases h) (Kd.row_u8 (by repeat (first | exact Kd.bi_new (by simp) | refine Kd.bi_old ?_)) trivial HL.out)); intro v1 w1 ho1 hb1; have HO1 := Lib.hid ho1; have HB1 := Lib.hid hb1; clear ho1 hb1)
    have hb1 : Below w.heap.size w w1 := bel_step (bel_alloc (bel_alloc HB0.out _) _) HB1.out
    have HO2 : Hid (byteK.own 5 w1 w.heap.size T v1 (title ++ [UInt8.ofNat l.length] ++ heads (l.take 0))) := by
      have := Kd.own_lower (base' := w.heap.size) (by have := HB0.out.size; simp; omega) HO1.out
      exact Lib.hid (by simpa [heads, title] using this)
    have HB2 := Lib.hid hb1
    clear HO1 HB1 hb1 kc HB0 HL
    go_loopw [4, 5] (fun vb vi wr => ∃ k : Nat, k ≤ l.length ∧ vi = .int .i64 k ∧ Hid (byteK.own 5 wr w.heap.size T vb (title ++ [UInt8.ofNat l.length] ++ heads (l.take k))) ∧ Hid (Below w.heap.size w wr)) (fun _ vi _ => l.length - (intOf vi).toNat)
    case atStart => exact ⟨0, by omega, rfl, HO2, HB2⟩
    case round =>
      clear HO2 HB2
      obtain ⟨k, hk, rfl, HO, HB⟩ := hrel
      by_cases hlt : k < l.length
      · obtain ⟨b, off, A', c', rfl, hbl0, hc0', hc1', hid0, hbody'⟩ := sec_at HR.out k hlt
        have hid := id_range l 0 HM.out.2.1 l[k] (List.getElem_mem hlt)
        have HT2 := Lib.hid (heads_snoc l k hlt)
        have hbl1 : l[k].2.length ≤ 100000 := by
          have e1 := total_snoc l k hlt
          have e2 := total_take l (k + 1)
          have e3 := HM.out.2.2
          omega
        have HBY := Lib.hid hbody'
        have hlen0 : (title ++ [UInt8.ofNat l.length] ++ heads (l.take k)).length ≤ 62 := by
          rw [List.length_append, heads_length]; simp [title]; omega
        have HT2' : Hid (title ++ [UInt8.ofNat l.length] ++ heads (l.take (k + 1)) = ((title ++ [UInt8.ofNat l.length] ++ heads (l.take k)) ++ [idB l[k].1]) ++ three l[k].2.length ++ three (crc l[k].2)) :=
          Lib.hid (by rw [HT2.out]; simp [head1])
        clear HT2 hbody'
        generalize title ++ [UInt8.ofNat l.length] ++ heads (l.take k) = pre at *
        generalize hx : l[k] = x at *
        clear hx
        obtain ⟨id, body⟩ := x
        dsimp only at *
        have HID : Hid (id = ((idB id).toNat : Int)) := Lib.hid (idB_val (by omega) hid.2).symm
        have hid1 : 0 ≤ id := by omega
        have hid2 : id ≤ 255 := hid.2
        have hwr : IntKind.u8.wrap id = id := by rw [IntKind.wrap_u8]; omega
        have HK : Hid (∀ w', Below w.heap.size w w' → w'.cell? ⟨b, off + k * 2, none⟩ = some (.int .i64 id) ∧ w'.cell? ⟨b, off + k * 2 + 1, none⟩ = some (.slice A' body.length c')) :=
          Lib.hid (fun w' h => ⟨cell_same hc0' (h.block _ (cell_lt hc0')), cell_same hc1' (h.block _ (cell_lt hc1'))⟩)
        clear hc0' hc1'
        obtain ⟨hc0, hc1⟩ := HK.out _ HB.out
        have ik : (k : Int) < (l.length : Int) := by omega
        have ik0 : (0 : Int) ≤ (k : Int) := by omega
        obtain ⟨Ab, cb, rfl, _, _⟩ := Kd.own_slice HO.out
        go_upto_region 7 with fail
        go_cut [4] (fun vb wx => Hid (byteK.own 5 wx w.heap.size T vb ((pre ++ [idB id]) ++ three body.length)) ∧ Hid (Below w.heap.size w wx))
        case first =>
          have hB := HB.out
          go_region_held3 (fun w' => w'.cell? ⟨b, off + k * 2, none⟩ = some (.int .i64 id) ∧ w'.cell? ⟨b, off + k * 2 + 1, none⟩ = some (.slice A' body.length c'))
            (exact HK.out _ (by repeat (first | assumption | refine bel_alloc ?_ _ | refine bel_drew ?_)))
            (first
              | (refine Kd.own_app_step byteK (w0 := w) w.heap.size (by rfl) (.tmp 23) (.tmp 30) 22 5 (.int .u8 0) 1 (by rfl) Try.underlying22 info_u8 rfl (by decide) (.slice Ab pre.length cb) pre [idB id] (some ⟨wr.heap.size, 0, none⟩) 1 T (by rfl) (by rfl) ?ho (.inr ⟨?hr, any_u8⟩) ?hb ?hs ?hl ?_; go_loud (case hl => simp; omega); go_loud (case ho => repeat (first | exact HO.out | refine Kd.own_alloc ?_ _ | refine Kd.own_drew ?_)); go_loud (case hr => exact Kd.u8_sl (l := [idB id]) (by simp) (by simp [maxLen]) (fun h => by cases h) (Kd.row_u8 (by repeat (first | exact Kd.bi_new (by simp) | refine Kd.bi_old ?_ | refine Kd.bi_drew ?_)) trivial (by exact congrArg (fun z : Int => [Value.int .u8 z]) HID.out))); go_loud (case hb => repeat (first | assumption | refine bel_alloc ?_ _ | refine bel_drew ?_)); go_loud (case hs => have := hB.size; simp; omega); intro v1 w1 ho1 hb1 hg1 hv1; have HO1 := Lib.hid ho1; clear ho1 hg1 hv1)
              | (go_at_call 30; go_loud (refine (refthree_calls body.length (by omega) _).mono ?_); rintro e w2 ⟨v2, rfl, ho2, hb2⟩; have HT := Lib.hid ho2; have HO2 := Lib.hid (Kd.own_below HO1.out hb2); have hb3 := bel_step hb1 hb2; clear ho2 hb2 HO1)
              | (obtain ⟨A2, c2, rfl, _, _⟩ := Kd.own_slice HT.out; go_loud (refine Kd.own_app_step byteK w.heap.size rfl (.tmp 31) (.tmp 38) 22 5 (.int .u8 0) 1 rfl Try.underlying22 info_u8 rfl (by decide) _ (pre ++ [idB id]) (three body.length) A2 c2 T rfl (by simp [Act.eval, Act.put]) HO2.out (.inr ⟨Kd.own_sl (ok' := T) HT.out (fun _ _ => trivial) (fun _ _ => trivial), any_u8⟩) hb3 hb3.size (by simp [three]; omega) ?_); intro v4 w4 ho4 hb4 hg4 hv4; have HO4 := Lib.hid ho4; clear ho4 hg4 hv4))
          go_wp2_with fail
          go_meet
          exact ⟨HO4, Lib.hid hb4⟩
        case rest =>
          obtain ⟨HO7, HB7⟩ := hcut
          clear hc0 hc1 hwr ik ik0
          have hp1 : ((pre ++ [idB id]) ++ three body.length).length ≤ 66 := by simp [three]; omega
          generalize (pre ++ [idB id]) ++ three body.length = p1 at *
          obtain ⟨hc0, hc1⟩ := HK.out _ HB7.out
          have ik : (k : Int) < (l.length : Int) := by omega
          obtain ⟨Ay, cy, rfl, _, _⟩ := Kd.own_slice HO7.out
          obtain ⟨A3, c3, he3, _, hq3, _, hr3⟩ := HBY.out
          obtain ⟨rfl, rfl⟩ : A' = A3 ∧ c' = c3 := by simp at he3; exact he3
          have HR3 := Lib.hid (Kd.row_below (Kd.row_mono (ok' := T) (fun _ _ _ => trivial) hr3) HB7.out)
          clear hr3 he3
          go_wp2_with fail
          refine (ref_calls body A' c' T _ (by unfold maxLen; omega) HR3.out).mono ?_
          rintro e w4 ⟨rfl, rfl⟩
          have hcr := crc_lt body
          generalize crc body = cr at *
          go_wp2_with fail
          refine (refthree_calls cr hcr _).mono ?_
          rintro e w5 ⟨v5, rfl, ho5, hb5⟩
          have HO5 := Lib.hid ho5
          have HP5 := Lib.hid (Kd.own_below HO7.out hb5)
          have HB5 := Lib.hid (bel_step HB7.out hb5)
          have ht5 : (three cr).length ≤ 3 := Nat.le_refl _
          generalize three cr = t5 at *
          obtain ⟨A5, c5, rfl, _, _⟩ := Kd.own_slice ho5
          have HM5 := Lib.hid (Kd.own_sl (ok' := T) HO5.out (fun _ _ => trivial) (fun _ _ => trivial))
          clear ho5 hb5 hc0 hc1
          go_wp2_with (at_builtin; go_loud (refine Kd.own_app byteK w.heap.size rfl (.tmp 40) (.tmp 47) 22 5 (.int .u8 0) 1 rfl Try.underlying22 info_u8 rfl (by decide) (.slice Ay p1.length cy) p1 t5 A5 c5 T (by simp [Act.eval, Act.put]) (by simp [Act.eval, Act.put]) HP5.out (.inr ⟨HM5.out, any_u8⟩) HB5.out HB5.out.size (by omega) ?_); intro v6 w6 ho6 hb6 hg6 hv6; have HO6 := Lib.hid ho6; have HB6 := Lib.hid hb6; clear ho6 hb6 hg6 hv6)
          go_roundw
          case rel => exact ⟨k + 1, by omega, by go_num, Lib.hid (by rw [HT2'.out]; exact HO6.out), HB6⟩
          case measure => simp [intOf]; omega
      · obtain rfl : k = l.length := by omega
        rw [List.take_of_length_le (Nat.le_refl _)] at HO
        have HH : Hid (title ++ [UInt8.ofNat l.length] ++ heads l = header l) := Lib.hid (by simp [header])
        rw [HH.out] at HO
        have hhl : (header l).length ≤ 62 := by rw [header_length]; omega
        have HF : Hid (header l ++ three (crc (header l)) ++ bodies l = file l) := Lib.hid rfl
        generalize header l = hd at *
        clear HH
        obtain ⟨Ab, cb, rfl, _, _⟩ := Kd.own_slice HO.out
        have HS0 := Kd.own_sl (ok' := T) HO.out (fun _ _ => trivial) (fun _ _ => trivial)
        obtain ⟨A3, c3, he3, _, hq3, _, hr3⟩ := HS0
        obtain ⟨rfl, rfl⟩ : Ab = A3 ∧ cb = c3 := by simp at he3; exact he3
        have HR3 := Lib.hid hr3
        clear he3 hr3
        go_wp2_with fail
        refine (ref_calls hd Ab cb T _ (by unfold maxLen; omega) HR3.out).mono ?_
        rintro e w4 ⟨rfl, rfl⟩
        have hcr := crc_lt hd
        generalize crc hd = cr at *
        go_wp2_with fail
        refine (refthree_calls cr hcr _).mono ?_
        rintro e w5 ⟨v5, rfl, ho5, hb5⟩
        have HO5 := Lib.hid ho5
        have HP5 := Lib.hid (Kd.own_below HO.out hb5)
        have HB5 := Lib.hid (bel_step HB.out hb5)
        have ht5 : (three cr).length ≤ 3 := Nat.le_refl _
        generalize three cr = t5 at *
        obtain ⟨A5, c5, rfl, _, _⟩ := Kd.own_slice ho5
        have HM5 := Lib.hid (Kd.own_sl (ok' := T) HO5.out (fun _ _ => trivial) (fun _ _ => trivial))
        clear ho5 hb5
        go_wp2_with (at_builtin; go_loud (refine Kd.own_app byteK w.heap.size rfl (.tmp 49) (.tmp 52) 22 5 (.int .u8 0) 1 rfl Try.underlying22 info_u8 rfl (by decide) (.slice Ab hd.length cb) hd t5 A5 c5 T (by simp [Act.eval, Act.put]) (by simp [Act.eval, Act.put]) HP5.out (.inr ⟨HM5.out, any_u8⟩) HB5.out HB5.out.size (by omega) ?_); intro v6 w6 ho6 hb6 hg6 hv6; have HO6 := Lib.hid ho6; have HB6 := Lib.hid hb6; clear ho6 hb6 hg6 hv6)
        have hp6 : (hd ++ t5).length ≤ 65 := by simp; omega
        generalize hd ++ t5 = p6 at *
        have ht := HM.out.2.2
        go_loopw [4, 6] (fun vb vi wq => ∃ k : Nat, k ≤ l.length ∧ vi = .int .i64 k ∧ Hid (byteK.own 5 wq w.heap.size T vb (p6 ++ bodies (l.take k))) ∧ Hid (Below w.heap.size w wq)) (fun _ vi _ => l.length - (intOf vi).toNat)
        case atStart => exact ⟨0, by omega, rfl, Lib.hid (by simpa [bodies] using HO6.out), HB6⟩
        case round =>
          obtain ⟨k, hk', rfl, HOq, HBq⟩ := hrel
          by_cases hlt' : k < l.length
          · obtain ⟨b, off, A', c', rfl, hbl, hc0, hc1, hid, hbody⟩ := sec_at (Kd.row_old HR.out HBq.out) k hlt'
            have HT2 := Lib.hid (bodies_snoc l k hlt')
            have hT3 : (bodies (l.take k)).length + l[k].2.length ≤ 100000 := by
              have e1 := total_snoc l k hlt'
              have e2 := total_take l (k + 1)
              rw [bodies_length]
              omega
            have HBY := Lib.hid hbody
            clear hbody
            have hpq : (p6 ++ bodies (l.take k)).length = p6.length + (bodies (l.take k)).length := by simp
            have hpq' : (p6 ++ bodies (l.take k)).length + l[k].2.length ≤ 100065 := by omega
            clear hpq hT3
            generalize hx : l[k] = x at *
            clear hx
            obtain ⟨id, body⟩ := x
            dsimp only at *
            have HT3 : Hid (p6 ++ bodies (l.take (k + 1)) = (p6 ++ bodies (l.take k)) ++ body) := Lib.hid (by rw [HT2.out, List.append_assoc])
            generalize p6 ++ bodies (l.take k) = pq at *
            obtain ⟨Aq, cq, rfl, _, _⟩ := Kd.own_slice HOq.out
            go_wp2_with (at_builtin; go_loud (refine Kd.own_app byteK w.heap.size rfl (.tmp 60) (.tmp 65) 22 5 (.int .u8 0) 1 rfl Try.underlying22 info_u8 rfl (by decide) (.slice Aq pq.length cq) pq body A' c' T (by simp [Act.eval, Act.put]) (by simp [Act.eval, Act.put]) HOq.out (.inr ⟨byteK.sl.mono (fun _ _ _ => trivial) HBY.out, any_u8⟩) HBq.out HBq.out.size (by omega) ?_); intro v7 w7 ho7 hb7 hg7 hv7; have HO7 := Lib.hid ho7; have HB7 := Lib.hid hb7; clear ho7 hb7 hg7 hv7)
            go_roundw
            case rel => exact ⟨k + 1, by omega, by go_num, Lib.hid (by rw [HT3.out]; exact HO7.out), HB7⟩
            case measure => simp [intOf]; omega
          · obtain rfl : k = l.length := by omega
            rw [List.take_of_length_le (Nat.le_refl _)] at HOq
            go_wp2_with fail
            go_ret2
            exact ⟨HBq.out, .inl ⟨HM.out, _, rfl, by rw [← HF.out]; exact HOq.out⟩⟩
  · have hd : decide (May l) = false := decide_eq_false hM
    have HM := Lib.hid hM
    clear hM
    go_enter Try.func22, Try.ntmps22
    go_wp2_with fail
    refine (may_calls l hS _ T _ HM0.out).mono ?_
    rintro e w0 ⟨rfl, hb0⟩
    rw [hd]
    go_wp2
    go_ret2
    exact ⟨hb0, .inr ⟨HM.out, rfl⟩⟩
end Go.Proofs.Ytimjllokibnibaa.BoxRef
