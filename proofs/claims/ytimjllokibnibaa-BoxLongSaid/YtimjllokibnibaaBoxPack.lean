/-
  What box.Pack answers.
-/
import Derived.Test.YtimjllokibnibaaBoxWalk
import Derived.Lib.SlBytesConst
import Derived.Deep.DeepCutAuto
set_option linter.unusedVariables false
set_option linter.unusedSimpArgs false
namespace Go.Proofs.Ytimjllokibnibaa.BoxPack
open Go.RowKit Go.Proofs.Ytimjllokibnibaa.CrcPure Go.Proofs.Ytimjllokibnibaa.BoxPure Go.Proofs.Ytimjllokibnibaa.B Go.Proofs.Ytimjllokibnibaa.CrcWalk Go.Proofs.Ytimjllokibnibaa.CrcLaws Go.Proofs.Ytimjllokibnibaa.BoxWalk

/-- A section. -/
def secK : Kd Sec := pairK intK byteK.sl
theorem sec_cells {w : World} {ok : Nat → Prop} {x : Sec} {cs : List Value} (h : secK.M w ok x cs) : ∃ A c, cs = [.int .i64 x.1, .slice A x.2.length c] ∧ (-9223372036854775808 ≤ x.1 ∧ x.1 ≤ 9223372036854775807) ∧ byteK.sl.M w ok x.2 [.slice A x.2.length c] := by
  obtain ⟨c1, c2, rfl, ⟨rfl, h1⟩, ⟨A, c, rfl, h2⟩⟩ := h
  exact ⟨A, c, rfl, h1, A, c, rfl, h2⟩
/-- Element k of a row of sections, in cells. -/
theorem sec_at {w : World} {ok : Nat → Prop} {A : Option Addr} {l : List Sec} (h : secK.row w ok A l) (k : Nat) (hk : k < l.length) :
    ∃ b off A' c', A = some ⟨b, off, none⟩ ∧ b < w.heap.size ∧ w.cell? ⟨b, off + k * 2, none⟩ = some (.int .i64 l[k].1) ∧ w.cell? ⟨b, off + k * 2 + 1, none⟩ = some (.slice A' l[k].2.length c') ∧
      (-9223372036854775808 ≤ l[k].1 ∧ l[k].1 ≤ 9223372036854775807) ∧ byteK.sl.M w ok l[k].2 [.slice A' l[k].2.length c'] := by
  obtain ⟨b, off, h1, _, hb, h2⟩ := Kd.row_addr h (by omega)
  obtain ⟨cs, hM, hc⟩ := h2 k hk
  obtain ⟨A', c', rfl, h3, h4⟩ := sec_cells hM
  exact ⟨b, off, A', c', h1, hb, hc 0 _ rfl, hc 1 _ rfl, h3, h4⟩

/-- The state of Pack's loop behind the copy of a section. -/
structure PSt (w W : World) (v : Value) (b : List UInt8) (g : Nat) (id : Int) (body : List UInt8) (u : Value) : Prop where
  own : byteK.own 5 W w.heap.size T v b
  bel : Below w.heap.size w W
  c0 : W.cell? ⟨g, 0, none⟩ = some (.int .i64 id)
  c1 : W.cell? ⟨g, 1, none⟩ = some u
  ne : some g ≠ v.ownBlock
  body : byteK.sl.M W (fun k => k < w.heap.size) body [u]
namespace PSt
variable {w W W' : World} {v v1 : Value} {b ys body : List UInt8} {g : Nat} {id : Int} {u : Value}
theorem call (h : PSt w W v b g id body u) (hb : Below W.heap.size W W') : PSt w W' v b g id body u :=
  ⟨Kd.own_below h.own hb, bel_step h.bel hb, cell_same h.c0 (hb.block _ (cell_lt h.c0)), cell_same h.c1 (hb.block _ (cell_lt h.c1)), h.ne, Kd.M_below h.body hb⟩
theorem app (h : PSt w W v b g id body u) (h1 : byteK.own 5 W' w.heap.size T v1 (b ++ ys)) (h2 : Below w.heap.size w W') (h3 : W.grownBy W' v.ownBlock) (h4 : v1.ownBlock = v.ownBlock ∨ ∃ k, v1.ownBlock = some k ∧ W.heap.size ≤ k) : PSt w W' v1 (b ++ ys) g id body u :=
  ⟨h1, h2, h3.cell h.c0 h.ne, h3.cell h.c1 h.ne, by
    rcases h4 with h4 | ⟨k, h4, h5⟩
    · rw [h4]; exact h.ne
    · rw [h4]
      intro e
      have := cell_lt h.c0
      simp at e
      simp at this
      omega, by
    refine byteK.sl.move (fun k hk hlt => h3.block k hlt (fun e => ?_)) h.body
    have := (Kd.own_lt h.own k e.symm).1
    omega⟩
end PSt

def PackPost (l : List Sec) (w : World) (e : Ending) (w' : World) : Prop :=
  Below w.heap.size w w' ∧ ((May l ∧ ∃ v, e = .returned (.tuple #[v, .int .i64 0]) ∧ byteK.own 5 w' w.heap.size T v (file l)) ∨ (¬ May l ∧ e = .returned (.tuple #[.slice none 0 0, .int .i64 1])))

set_option maxRecDepth 100000 in
set_option maxHeartbeats 1600000 in
theorem pack_calls (l : List Sec) (v : Value) (w : World) (m : secK.sl.M w T l [v]) :
    Calls Try.prog 21 #[v] w (PackPost l w) := by
  obtain ⟨A, c, hv, h1, h2, h3, hr0⟩ := m
  simp at hv
  subst hv
  by_cases hlen : 8 < l.length
  · have q1 : decide ((8 : Int) < (l.length : Int)) = true := decide_eq_true (by omega)
    go_enter Try.func21, Try.ntmps21
    go_wp2
    go_ret2
    exact ⟨Below.refl _ _, .inr ⟨fun h => by have := h.1; omega, rfl⟩⟩
  · have q1 : decide ((8 : Int) < (l.length : Int)) = false := decide_eq_false (by omega)
    have HR := Lib.hid (Kd.row_mono (ok' := fun k => k < w.heap.size) (fun k _ hk => hk) hr0)
    clear hr0
    have kc := fun (w : World) (C : Array Value) (n c : Nat) => Lib.run_convert_bytes_const (P := Try.prog) w 22 5 C n c Try.underlying22 Try.underlying5
    have HL : Hid ((#[.int .u8 (l.length : Int)] : Array Value).toList = [UInt8.ofNat l.length].map fun c => Value.int .u8 (c.toNat : Int)) := by
      have : (#[.int .u8 (l.length : Int)] : Array Value).toList = [UInt8.ofNat l.length].map fun c => Value.int .u8 (c.toNat : Int) := by
        simp only [List.map_cons, List.map_nil, UInt8.toNat_ofNat']
        rw [show (((l.length % 2 ^ 8 : Nat)) : Int) = (l.length : Int) by omega]
      exact Lib.hid this
    go_enter Try.func21, Try.ntmps21
    go_wp2_with (at_builtin; go_loud (refine Kd.own_grow byteK rfl (.tmp 15) (.tmp 19) 22 5 (.int .u8 0) 1 rfl Try.underlying22 info_u8 rfl (by decide) title [UInt8.ofNat l.length] (some ⟨w.heap.size, 0, none⟩) (some ⟨w.heap.size + 1, 0, none⟩) 5 1 T rfl rfl ?hx ?hy (by simp [title]) (by simp) (by simp [title]) ?_); (case hx => exact Kd.u8_sl (l := title) (by simp [title]) (by simp [title, maxLen]) (fun h => by cases h) (Kd.row_u8 (by repeat (first | exact Kd.bi_new (by simp) | refine Kd.bi_old ?_)) trivial rfl)); (case hy => exact Kd.u8_sl (l := [UInt8.ofNat l.length]) (by simp) (by simp [maxLen]) (fun h => by cases h) (Kd.row_u8 (by repeat (first | exact Kd.bi_new (by simp) | refine Kd.bi_old ?_)) trivial HL.out)); intro v1 w1 ho1 hb1; have HO1 := Lib.hid ho1; have HB1 := Lib.hid hb1; clear ho1 hb1)
    have hb0 : Below w.heap.size w w1 := bel_step (bel_alloc (bel_alloc (Below.refl _ _) _) _) HB1.out
    have HO2 : Hid (byteK.own 5 w1 w.heap.size T v1 (title ++ [UInt8.ofNat l.length] ++ heads (l.take 0))) := by
      have := Kd.own_lower (base' := w.heap.size) (by simp; omega) HO1.out
      exact Lib.hid (by simpa [heads] using this)
    have HB2 := Lib.hid hb0
    clear HO1 HB1 hb0 kc
    go_loopw [4, 5, 6, 28] (fun vb vs vl vi wr => ∃ (k : Nat) (S L : Int), k ≤ l.length ∧ vi = .int .i64 k ∧ vs = .int .i64 S ∧ vl = .int .i64 L ∧ Hid (S = ((9 + 7 * l.length + total (l.take k) : Nat) : Int)) ∧ 0 ≤ S ∧ S ≤ 100000 ∧ Hid (L = lastID 0 (l.take k)) ∧ 0 ≤ L ∧
      Hid (rising 0 (l.take k) = true) ∧ Hid (byteK.own 5 wr w.heap.size T vb (title ++ [UInt8.ofNat l.length] ++ heads (l.take k))) ∧ Hid (Below w.heap.size w wr)) (fun _ _ _ vi _ => l.length - (intOf vi).toNat)
    case atStart =>
      exact ⟨0, 6 + 7 * (l.length : Int) + 3, 0, by omega, rfl, rfl, rfl, Lib.hid (by simp [total]; omega), by omega, by omega, Lib.hid rfl, by omega, Lib.hid rfl, HO2, HB2⟩
    case round =>
      clear HO2 HB2
      obtain ⟨k, S, L, hk, rfl, rfl, rfl, HS, hS0, hS1, HLL, hL0, HRi, HO, HB⟩ := hrel
      by_cases hlt : k < l.length
      · obtain ⟨b, off, A', c', rfl, hbl, hc0, hc1, hid, hbody⟩ := sec_at (Kd.row_old HR.out HB.out) k hlt
        have HT1 := Lib.hid (total_snoc l k hlt)
        have HT2 := Lib.hid (heads_snoc l k hlt)
        have HT3 := Lib.hid (rising_snoc' l k hlt 0)
        have HT4 := Lib.hid (lastID_snoc' l k hlt 0)
        have HBY := Lib.hid hbody
        clear hbody
        generalize hx : l[k] = x at *
        clear hx
        obtain ⟨id, body⟩ := x
        dsimp only at *
        have hb47 : body.length ≤ 140737488355328 := by
          obtain ⟨_, _, _, _, h, _⟩ := HBY.out
          exact h.1
        by_cases hbad : id ≤ L ∨ 255 < id ∨ 100000 < S + body.length
        · have HN : Hid (¬ May l) := by
            refine Lib.hid (fun hM => ?_)
            have r1 := rising_take l (k + 1) 0 hM.2.1
            have r2 := total_take l (k + 1)
            have r3 := hM.2.2
            rw [HT3.out, Bool.and_eq_true, Bool.and_eq_true, decide_eq_true_eq, decide_eq_true_eq] at r1
            rw [HT1.out] at r2
            rw [HLL.out] at hbad
            rw [HS.out] at hbad
            omega
          by_cases c1 : id ≤ L
          · have d1 : decide (id ≤ L) = true := decide_eq_true c1
            go_wp2
            go_ret2
            exact ⟨bel_alloc HB.out _, .inr ⟨HN.out, rfl⟩⟩
          · have d1 : decide (id ≤ L) = false := decide_eq_false c1
            by_cases c2 : 255 < id
            · have d2 : decide (255 < id) = true := decide_eq_true c2
              go_wp2
              go_ret2
              exact ⟨bel_alloc HB.out _, .inr ⟨HN.out, rfl⟩⟩
            · have d2 : decide (255 < id) = false := decide_eq_false c2
              have d3 : decide (100000 < S + (body.length : Int)) = true := decide_eq_true (by omega)
              go_wp2
              go_ret2
              exact ⟨bel_alloc HB.out _, .inr ⟨HN.out, rfl⟩⟩
        · have d1 : decide (id ≤ L) = false := decide_eq_false (by omega)
          have d2 : decide (255 < id) = false := decide_eq_false (by omega)
          have d3 : decide (100000 < S + (body.length : Int)) = false := decide_eq_false (by omega)
          have i0 : 0 ≤ id := by omega
          have i1 : id ≤ 255 := by omega
          have hbl1 : body.length ≤ 100000 := by omega
          have i3 : S + body.length ≤ 100000 := by omega
          have i4 : L < id := by omega
          have HID : Hid (id = ((idB id).toNat : Int)) := Lib.hid (idB_val i0 i1).symm
          clear hbad
          obtain ⟨Ab, cb, rfl, _, _⟩ := Kd.own_slice HO.out
          have P0 : PSt w (wr.alloc (.cells #[.int .i64 id, .slice A' body.length c'] 42)) (.slice Ab (title ++ [UInt8.ofNat l.length] ++ heads (l.take k)).length cb) (title ++ [UInt8.ofNat l.length] ++ heads (l.take k)) wr.heap.size id body (.slice A' body.length c') :=
            ⟨Kd.own_alloc HO.out _, bel_alloc HB.out _, by simp, by simp, fun e => by have := (Kd.own_lt HO.out _ e.symm).2; omega, Kd.M_below HBY.out (bel_alloc (Below.refl _ _) _)⟩
          have HP0 := Lib.hid P0
          have hlen0 : (title ++ [UInt8.ofNat l.length] ++ heads (l.take k)).length ≤ 62 := by
            rw [List.length_append, heads_length]; simp [title]; omega
          have HT2' : Hid (title ++ [UInt8.ofNat l.length] ++ heads (l.take (k + 1)) = ((title ++ [UInt8.ofNat l.length] ++ heads (l.take k)) ++ [idB id]) ++ three body.length ++ three (crc body)) :=
            Lib.hid (by rw [HT2.out]; simp [head1])
          clear HT2
          generalize title ++ [UInt8.ofNat l.length] ++ heads (l.take k) = pre at *
          go_upto_region 14 with (at_builtin; go_loud (refine Kd.own_app1 byteK w.heap.size rfl (.tmp 52) (.tmp 56) 22 5 (.int .u8 0) 1 rfl Try.underlying22 info_u8 rfl (by decide) _ pre (idB id) [.int .u8 id] T rfl (by simp [Act.eval, Act.put]) HP0.out.own (by exact congrArg (fun z : Int => [Value.int .u8 z]) HID.out) HP0.out.bel HP0.out.bel.size (by omega) ?_); intro v1 w1 ho1 hb1 hg1 hv1; have P1 := Lib.hid (HP0.out.app ho1 hb1 hg1 hv1); clear ho1 hb1 hg1 hv1)
          have hp1 : (pre ++ [idB id]).length ≤ 63 := by simp; omega
          generalize pre ++ [idB id] = p1 at *
          have hc0 := P1.out.c0
          have hc1 := P1.out.c1
          go_wp2_with fail
          refine (laid_calls body.length (by omega) _).mono ?_
          rintro e w2 ⟨v2, rfl, ho2, hb2⟩
          have P2 := Lib.hid (P1.out.call hb2)
          have HO2 := Lib.hid ho2
          have ht2 : (three body.length).length ≤ 3 := Nat.le_refl _
          generalize three body.length = t2 at *
          obtain ⟨A2, c2, rfl, _, _⟩ := Kd.own_slice ho2
          have HM2 := Lib.hid (Kd.own_sl (ok' := T) HO2.out (fun _ _ => trivial) (fun _ _ => trivial))
          clear ho2 hb2 hc0 hc1
          obtain ⟨Ax, cx, rfl, _, _⟩ := Kd.own_slice P2.out.own
          go_upto_region 15 with (at_builtin; go_loud (refine Kd.own_app byteK w.heap.size rfl (.tmp 58) (.tmp 62) 22 5 (.int .u8 0) 1 rfl Try.underlying22 info_u8 rfl (by decide) (.slice Ax p1.length cx) p1 t2 A2 c2 T (by simp [Act.eval, Act.put]) (by simp [Act.eval, Act.put]) P2.out.own (.inr ⟨HM2.out, any_u8⟩) P2.out.bel P2.out.bel.size (by omega) ?_); intro v3 w3 ho3 hb3 hg3 hv3; go_loud (have P3 := Lib.hid (P2.out.app ho3 hb3 hg3 (hv3.imp (fun e => e) (fun e => ⟨_, e, Nat.le_refl _⟩)))); clear ho3 hb3 hg3 hv3)
          have hp2 : (p1 ++ t2).length ≤ 66 := by simp; omega
          generalize p1 ++ t2 = p2 at *
          have hc1 := P3.out.c1
          have HS3 := Lib.hid (Kd.M_below P3.out.body (bel_alloc (Below.refl _ _) (.cells #[.slice A' body.length c'] 22)))
          go_wp2_with fail
          refine (sum_calls [body] (some ⟨w3.heap.size, 0, none⟩) _ T _ (by simp [maxLen]) (one_row rfl P3.out.body)).mono ?_
          rintro e w4 ⟨rfl, rfl⟩
          rw [show [body].flatten = body by simp]
          have P4 := Lib.hid (P3.out.call (bel_alloc (Below.refl _ _) (.cells #[.slice A' body.length c'] 22)))
          have hcr := crc_lt body
          generalize crc body = cr at *
          clear hc1
          go_wp2_with fail
          refine (laid_calls cr hcr _).mono ?_
          rintro e w5 ⟨v5, rfl, ho5, hb5⟩
          have P5 := Lib.hid (P4.out.call hb5)
          have HO5 := Lib.hid ho5
          have ht5 : (three cr).length ≤ 3 := Nat.le_refl _
          generalize three cr = t5 at *
          obtain ⟨A5, c5, rfl, _, _⟩ := Kd.own_slice ho5
          have HM5 := Lib.hid (Kd.own_sl (ok' := T) HO5.out (fun _ _ => trivial) (fun _ _ => trivial))
          clear ho5 hb5
          obtain ⟨Ay, cy, rfl, _, _⟩ := Kd.own_slice P5.out.own
          go_wp2_with (at_builtin; go_loud (refine Kd.own_app byteK w.heap.size rfl (.tmp 64) (.tmp 69) 22 5 (.int .u8 0) 1 rfl Try.underlying22 info_u8 rfl (by decide) (.slice Ay p2.length cy) p2 t5 A5 c5 T (by simp [Act.eval, Act.put]) (by simp [Act.eval, Act.put]) P5.out.own (.inr ⟨HM5.out, any_u8⟩) P5.out.bel P5.out.bel.size (by omega) ?_); intro v6 w6 ho6 hb6 hg6 hv6; go_loud (have P6 := Lib.hid (P5.out.app ho6 hb6 hg6 (hv6.imp (fun e => e) (fun e => ⟨_, e, Nat.le_refl _⟩)))); clear ho6 hb6 hg6 hv6)
          go_roundw
          case rel => exact ⟨k + 1, S + body.length, id, by omega, by go_num, rfl, rfl, Lib.hid (by rw [HT1.out, HS.out]; omega), by omega, by omega, Lib.hid HT4.out.symm, i0, Lib.hid (by rw [HT3.out, HRi.out, ← HLL.out]; simp; omega), Lib.hid (by rw [HT2'.out]; exact P6.out.own), Lib.hid P6.out.bel⟩
          case measure => simp [intOf]; omega
      · obtain rfl : k = l.length := by omega
        rw [List.take_of_length_le (Nat.le_refl _)] at *
        have hM : May l := ⟨by omega, HRi.out, by have := HS.out; omega⟩
        have HM := Lib.hid hM
        clear hM
        have HH : Hid (title ++ [UInt8.ofNat l.length] ++ heads l = header l) := Lib.hid (by simp [header])
        rw [HH.out] at HO
        have hhl : (header l).length ≤ 62 := by rw [header_length]; omega
        have HF : Hid (header l ++ three (crc (header l)) ++ bodies l = file l) := Lib.hid rfl
        generalize header l = hd at *
        clear HH HS HLL HRi
        obtain ⟨Ab, cb, rfl, _, _⟩ := Kd.own_slice HO.out
        have HS0 := Lib.hid (Kd.own_sl (ok' := T) HO.out (fun _ _ => trivial) (fun _ _ => trivial))
        go_wp2_with fail
        refine (sum_calls [hd] (some ⟨wr.heap.size, 0, none⟩) _ T _ (by simp [maxLen]) (one_row rfl HS0.out)).mono ?_
        rintro e w4 ⟨rfl, rfl⟩
        rw [show [hd].flatten = hd by simp]
        have HO4 := Lib.hid (Kd.own_alloc HO.out (.cells #[.slice Ab hd.length cb] 22))
        have HB4 := Lib.hid (bel_alloc HB.out (.cells #[.slice Ab hd.length cb] 22))
        have hcr := crc_lt hd
        generalize crc hd = cr at *
        generalize wr.alloc (.cells #[.slice Ab hd.length cb] 22) = w4 at *
        go_wp2_with fail
        refine (laid_calls cr hcr _).mono ?_
        rintro e w5 ⟨v5, rfl, ho5, hb5⟩
        have HO5 := Lib.hid ho5
        have HP5 := Lib.hid (Kd.own_below HO4.out hb5)
        have HB5 := Lib.hid (bel_step HB4.out hb5)
        have ht5 : (three cr).length ≤ 3 := Nat.le_refl _
        generalize three cr = t5 at *
        obtain ⟨A5, c5, rfl, _, _⟩ := Kd.own_slice ho5
        have HM5 := Lib.hid (Kd.own_sl (ok' := T) HO5.out (fun _ _ => trivial) (fun _ _ => trivial))
        clear ho5 hb5
        go_wp2_with (at_builtin; go_loud (refine Kd.own_app byteK w.heap.size rfl (.tmp 72) (.tmp 76) 22 5 (.int .u8 0) 1 rfl Try.underlying22 info_u8 rfl (by decide) (.slice Ab hd.length cb) hd t5 A5 c5 T (by simp [Act.eval, Act.put]) (by simp [Act.eval, Act.put]) HP5.out (.inr ⟨HM5.out, any_u8⟩) HB5.out HB5.out.size (by omega) ?_); intro v6 w6 ho6 hb6 hg6 hv6; have HO6 := Lib.hid ho6; have HB6 := Lib.hid hb6; clear ho6 hb6 hg6 hv6)
        have hp6 : (hd ++ t5).length ≤ 65 := by simp; omega
        generalize hd ++ t5 = p6 at *
        have ht := HM.out.2.2
        go_loopw [4, 80] (fun vb vi wq => ∃ k : Nat, k ≤ l.length ∧ vi = .int .i64 k ∧ Hid (byteK.own 5 wq w.heap.size T vb (p6 ++ bodies (l.take k))) ∧ Hid (Below w.heap.size w wq)) (fun _ vi _ => l.length - (intOf vi).toNat)
        case atStart => exact ⟨0, by omega, rfl, Lib.hid (by simpa [bodies] using HO6.out), HB6⟩
        case round =>
          obtain ⟨k, hk', rfl, HOq, HBq⟩ := hrel
          by_cases hlt' : k < l.length
          · obtain ⟨b, off, A', c', rfl, hbl, hc0, hc1, hid, hbody⟩ := sec_at (Kd.row_old HR.out HBq.out) k hlt'
            have HT2 := Lib.hid (bodies_snoc l k hlt')
            have hT3 : (bodies (l.take k)).length + l[k].2.length ≤ 100000 := by
              have e1 := total_snoc l k hlt'
              have e2 := total_take l (k + 1)
              rw [bodies_length]
              omega
            have HBY := Lib.hid (Kd.M_below hbody (bel_alloc (Below.refl _ _) (.cells #[.int .i64 l[k].1, .slice A' l[k].2.length c'] 42)))
            clear hbody
            have hpq : (p6 ++ bodies (l.take k)).length = p6.length + (bodies (l.take k)).length := by simp
            have hpq' : (p6 ++ bodies (l.take k)).length + l[k].2.length ≤ 100065 := by omega
            clear hpq hT3
            generalize hx : l[k] = x at *
            clear hx
            obtain ⟨id, body⟩ := x
            dsimp only at *
            have HT3 : Hid (p6 ++ bodies (l.take (k + 1)) = (p6 ++ bodies (l.take k)) ++ body) := Lib.hid (by rw [HT2.out, List.append_assoc])
            generalize p6 ++ bodies (l.take k) = pq at *
            obtain ⟨Aq, cq, rfl, _, _⟩ := Kd.own_slice HOq.out
            have HOr := Lib.hid (Kd.own_alloc HOq.out (.cells #[.int .i64 id, .slice A' body.length c'] 42))
            have HBr := Lib.hid (bel_alloc HBq.out (.cells #[.int .i64 id, .slice A' body.length c'] 42))
            go_wp2_with (at_builtin; go_loud (refine Kd.own_app byteK w.heap.size rfl (.tmp 84) (.tmp 86) 22 5 (.int .u8 0) 1 rfl Try.underlying22 info_u8 rfl (by decide) (.slice Aq pq.length cq) pq body A' c' T (by simp [Act.eval, Act.put]) (by simp [Act.eval, Act.put]) HOr.out (.inr ⟨byteK.sl.mono (fun _ _ _ => trivial) HBY.out, any_u8⟩) HBr.out HBr.out.size (by omega) ?_); intro v7 w7 ho7 hb7 hg7 hv7; have HO7 := Lib.hid ho7; have HB7 := Lib.hid hb7; clear ho7 hb7 hg7 hv7)
            go_roundw
            case rel => exact ⟨k + 1, by omega, by go_num, Lib.hid (by rw [HT3.out]; exact HO7.out), HB7⟩
            case measure => simp [intOf]; omega
          · obtain rfl : k = l.length := by omega
            rw [List.take_of_length_le (Nat.le_refl _)] at HOq
            go_wp2_with fail
            go_ret2
            exact ⟨HBq.out, .inl ⟨HM.out, _, rfl, by rw [← HF.out]; exact HOq.out⟩⟩
end Go.Proofs.Ytimjllokibnibaa.BoxPack
