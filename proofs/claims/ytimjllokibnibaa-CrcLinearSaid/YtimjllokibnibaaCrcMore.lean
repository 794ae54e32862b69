/-
  Two more laws of crc, walked.
-/
import Derived.Test.YtimjllokibnibaaCrcLaws
import Derived.RegionTactic
import Derived.ChangeAlike
import Derived.Deep.OwnRows
import Derived.Deep.QuietTactic
import Derived.BigQuiet
import Derived.Deep.DeepCutAuto
import Derived.Maps.Own
import Derived.Maps.OwnOps
import Derived.Maps.OwnSet
set_option linter.unusedVariables false
set_option linter.unusedSimpArgs false
namespace Go.Proofs.Ytimjllokibnibaa.CrcMore
open Go.RowKit Go.Proofs.Ytimjllokibnibaa.CrcPure Go.Proofs.Ytimjllokibnibaa.B Go.Proofs.Ytimjllokibnibaa.CrcWalk Go.Proofs.Ytimjllokibnibaa.CrcLaws

structure Tri (w0 w : World) (gx gy gz n : Nat) (lx ly lz : List UInt8) : Prop where
  ox : byteK.own 5 w w0.heap.size (fun _ => True) (.slice (some ⟨gx, 0, none⟩) n n) lx
  oy : byteK.own 5 w w0.heap.size (fun _ => True) (.slice (some ⟨gy, 0, none⟩) n n) ly
  oz : byteK.own 5 w w0.heap.size (fun _ => True) (.slice (some ⟨gz, 0, none⟩) n n) lz
  xy : gx ≠ gy
  xz : gx ≠ gz
  yz : gy ≠ gz
  bel : Below w0.heap.size w0 w
  lx : lx.length = n
  ly : ly.length = n
  lz : lz.length = n

theorem own_far {e : TypeId} {w : World} {B : Nat} {g n c : Nat} {l : List UInt8} (h : byteK.own e w B (fun _ => True) (.slice (some ⟨g, 0, none⟩) n c) l) {a : Addr} (ha : a.block ≠ g) (u : Value) : byteK.own e (w.setCell a u) B (fun _ => True) (.slice (some ⟨g, 0, none⟩) n c) l := by
  obtain ⟨h0, cells, h1, h2⟩ := h
  refine ⟨h0, cells, Kd.ownsRow_move h1 (fun k hk _ => Below.heap_setCell _ _ _ _ (fun e => ha ?_)), h2⟩
  have : k = g := by simpa [Value.ownBlock, eq_comm] using hk
  omega
namespace Tri
variable {w0 w : World} {gx gy gz n : Nat} {lx ly lz : List UInt8}
theorem setx (h : Tri w0 w gx gy gz n lx ly lz) {i : Nat} (hi : i < n) (x : UInt8) : Tri w0 (w.setCell ⟨gx, i, none⟩ (.int .u8 (x.toNat : Int))) gx gy gz n (lx.set i x) ly lz :=
  ⟨Kd.own_set rfl h.ox (by rw [h.lx]; exact hi) rfl, own_far h.oy h.xy _, own_far h.oz h.xz _, h.xy, h.xz, h.yz, h.bel.setCell (Kd.own_lt h.ox gx rfl).1 _, by simp [h.lx], h.ly, h.lz⟩
theorem sety (h : Tri w0 w gx gy gz n lx ly lz) {i : Nat} (hi : i < n) (x : UInt8) : Tri w0 (w.setCell ⟨gy, i, none⟩ (.int .u8 (x.toNat : Int))) gx gy gz n lx (ly.set i x) lz :=
  ⟨own_far h.ox h.xy.symm _, Kd.own_set rfl h.oy (by rw [h.ly]; exact hi) rfl, own_far h.oz h.yz _, h.xy, h.xz, h.yz, h.bel.setCell (Kd.own_lt h.oy gy rfl).1 _, h.lx, by simp [h.ly], h.lz⟩
theorem setz (h : Tri w0 w gx gy gz n lx ly lz) {i : Nat} (hi : i < n) (x : UInt8) : Tri w0 (w.setCell ⟨gz, i, none⟩ (.int .u8 (x.toNat : Int))) gx gy gz n lx ly (lz.set i x) :=
  ⟨own_far h.ox h.xz.symm _, own_far h.oy h.yz.symm _, Kd.own_set rfl h.oz (by rw [h.lz]; exact hi) rfl, h.xy, h.xz, h.yz, h.bel.setCell (Kd.own_lt h.oz gz rfl).1 _, h.lx, h.ly, by simp [h.lz]⟩
theorem drew (h : Tri w0 w gx gy gz n lx ly lz) : Tri w0 w.drew gx gy gz n lx ly lz :=
  ⟨Kd.own_move (fun _ _ _ => rfl) h.ox, Kd.own_move (fun _ _ _ => rfl) h.oy, Kd.own_move (fun _ _ _ => rfl) h.oz, h.xy, h.xz, h.yz, h.bel.drew, h.lx, h.ly, h.lz⟩
theorem cellx (h : Tri w0 w gx gy gz n lx ly lz) {i : Nat} (hi : i < lx.length) : w.cell? ⟨gx, i, none⟩ = some (.int .u8 (lx[i].toNat : Int)) := by
  obtain ⟨u, hc, hu⟩ := Kd.own_cell rfl h.ox hi
  obtain rfl : u = .int .u8 (lx[i].toNat : Int) := by simpa [byteK, flat] using hu
  exact hc
theorem celly (h : Tri w0 w gx gy gz n lx ly lz) {i : Nat} (hi : i < ly.length) : w.cell? ⟨gy, i, none⟩ = some (.int .u8 (ly[i].toNat : Int)) := by
  obtain ⟨u, hc, hu⟩ := Kd.own_cell rfl h.oy hi
  obtain rfl : u = .int .u8 (ly[i].toNat : Int) := by simpa [byteK, flat] using hu
  exact hc
theorem cellz (h : Tri w0 w gx gy gz n lx ly lz) {i : Nat} (hi : i < lz.length) : w.cell? ⟨gz, i, none⟩ = some (.int .u8 (lz[i].toNat : Int)) := by
  obtain ⟨u, hc, hu⟩ := Kd.own_cell rfl h.oz hi
  obtain rfl : u = .int .u8 (lz[i].toNat : Int) := by simpa [byteK, flat] using hu
  exact hc
end Tri

/-- A made row of noughts. -/
theorem made_row {w0 W : World} {g n : Nat} (hb : w0.heap.size ≤ g) (hn : n ≤ 140737488355328) (hh : W.heap[g]? = some (.cells (madeCells #[.int .u8 0] n) 5 (0, 0))) :
    byteK.own 5 W w0.heap.size (fun _ => True) (.slice (some ⟨g, 0, none⟩) n n) (List.replicate n 0) := by
  refine Kd.own_make (z := .int .u8 0) hn rfl (fun _ _ => rfl) ⟨by simp, .inr ⟨g, n, _, rfl, hb, hh, Nat.le_refl _, by unfold maxLen; omega, by simp [madeCells], ?_⟩⟩
  rw [toList_madeCells_one]
  simp

/-- What x, y, z hold behind k rounds. -/
def xs (l : List UInt8) (p : UInt8) (k : Nat) : List UInt8 := (l.take k).map (· ^^^ p) ++ List.replicate (l.length - k) 0
def ys (l : List UInt8) (q : UInt8) (k : Nat) : List UInt8 := (l.take k).map (· * q) ++ List.replicate (l.length - k) 0
def zs (l : List UInt8) (p q : UInt8) (k : Nat) : List UInt8 := (l.take k).map (fun c => c ^^^ (c ^^^ p) ^^^ (c * q)) ++ List.replicate (l.length - k) 0
theorem step_set (l : List UInt8) (f : UInt8 → UInt8) (k : Nat) (h : k < l.length) :
    ((l.take k).map f ++ List.replicate (l.length - k) 0).set k (f l[k]) = (l.take (k + 1)).map f ++ List.replicate (l.length - (k + 1)) 0 := by
  have hk : ((l.take k).map f).length = k := by simp; omega
  rw [List.set_append_right _ _ (by omega), hk, Nat.sub_self, show l.length - k = (l.length - (k + 1)) + 1 by omega, List.replicate_succ, List.set_cons_zero, List.take_succ_eq_append_getElem h, List.map_append]
  simp
theorem get_left (l : List UInt8) (f : UInt8 → UInt8) (k : Nat) (h : k < l.length) (i : Nat) (hi : i < ((l.take (k + 1)).map f ++ List.replicate (l.length - (k + 1)) 0).length) (hk : i = k) :
    ((l.take (k + 1)).map f ++ List.replicate (l.length - (k + 1)) 0)[i] = f l[k] := by
  subst hk
  rw [List.getElem_append_left (by simp; omega)]
  simp
theorem xor3 (l : List UInt8) (p q : UInt8) : l.map (fun c => c ^^^ (c ^^^ p) ^^^ (c * q)) = (l.zipWith (· ^^^ ·) (l.map (· ^^^ p))).zipWith (· ^^^ ·) (l.map (· * q)) := by
  induction l with
  | nil => rfl
  | cons c l ih => simp [ih]
theorem mul_u8 (a b : UInt8) : ((a.toNat : Int) * (b.toNat : Int)) % 256 = ((a * b).toNat : Int) := by
  rw [UInt8.toNat_mul, Int.natCast_emod, Int.natCast_mul, show ((2 ^ 8 : Nat) : Int) = 256 from rfl]

set_option maxHeartbeats 1600000 in
theorem linear (w : World) (l : List UInt8) (v : Value) (m : byteK.sl.M w (fun _ => True) l [v]) (p q : UInt8) :
    Calls Try.prog 8 #[v, .int .u8 p.toNat, .int .u8 q.toNat] w fun e w' => e = .returned (.bool true) ∧ Below w.heap.size w w' := by
  obtain ⟨A, c, hv, h1, h2, h3, hr⟩ := m
  simp at hv
  subst hv
  have hp := p.toNat_lt
  have hq := q.toNat_lt
  by_cases hbad : 300 < l.length
  · have q1 : decide ((300 : Int) < (l.length : Int)) = true := decide_eq_true (by omega)
    go_enter Try.func8, Try.ntmps8
    go_wp2
    go_ret
    exact ⟨rfl, Below.refl _ _⟩
  · have q1 : decide ((300 : Int) < (l.length : Int)) = false := decide_eq_false (by omega)
    have HR := Lib.hid hr
    clear hr
    have hmk := run_make_row' (P := Try.prog) 22 5 (.int .u8 0) 1 Try.underlying22 info_u8 rfl .i64 .i64 l.length (by omega) (by omega)
    go_enter Try.func8, Try.ntmps8
    have HM := Lib.hid hmk
    clear hmk
    go_upto_region 3 with fail
    go_cut [7, 8, 9] (fun vx vy vz wr => ∃ gx gy gz : Nat, vx = .slice (some ⟨gx, 0, none⟩) l.length l.length ∧ vy = .slice (some ⟨gy, 0, none⟩) l.length l.length ∧ vz = .slice (some ⟨gz, 0, none⟩) l.length l.length ∧ Hid (Tri w wr gx gy gz l.length (List.replicate l.length 0) (List.replicate l.length 0) (List.replicate l.length 0)))
    case first =>
      have hmk := HM.out
      go_region
      all_goals clear hmk
      all_goals go_wp2_with fail
      all_goals go_meet
      all_goals refine ⟨_, _, _, rfl, rfl, rfl, Lib.hid ⟨made_row (by omega) (by omega) ?_, made_row (by omega) (by omega) ?_, made_row (by omega) (by omega) ?_, by omega, by omega, by omega, ?_, by simp, by simp, by simp⟩⟩
      all_goals first
        | (simp [Kd.alloc_heap, Array.getElem?_push]; done)
        | (simp only [World.drew, Kd.alloc_heap, Array.getElem?_push]; simp; done)
        | exact bel_drew (bel_alloc (bel_alloc (bel_alloc (Below.refl _ _) _) _) _)
    case rest =>
      obtain ⟨gx, gy, gz, rfl, rfl, rfl, HT⟩ := hcut
      have HT0 : Hid (Tri w wc gx gy gz l.length (xs l p 0) (ys l q 0) (zs l p q 0)) := by
        have e : List.replicate l.length (0 : UInt8) = xs l p 0 := by simp [xs]
        have e2 : List.replicate l.length (0 : UInt8) = ys l q 0 := by simp [ys]
        have e3 : List.replicate l.length (0 : UInt8) = zs l p q 0 := by simp [zs]
        have := HT.out
        exact Lib.hid (by rw [← e, ← e2, ← e3]; exact this)
      clear HT HM
      go_wp2_with fail
      go_loopw [10] (fun i wr => ∃ k : Nat, k ≤ l.length ∧ i = .int .i64 k ∧ Hid (Tri w wr gx gy gz l.length (xs l p k) (ys l q k) (zs l p q k))) (fun i _ => l.length - (intOf i).toNat)
      case atStart => exact ⟨0, by omega, rfl, HT0⟩
      case round =>
        clear HT0
        obtain ⟨k, hk, rfl, HT⟩ := hrel
        by_cases hlt : k < l.length
        · obtain ⟨ad, rfl, hc0⟩ := u8_at HR.out k hlt
          have hc : wr.cell? (ad.add k) = some (.int .u8 (l[k].toNat : Int)) := cell_same hc0 (HT.out.bel.block _ (cell_lt hc0))
          have HC := Lib.hid hc0
          clear hc0
          have hfx := Kd.own_frozen HT.out.ox k
          have hfy := Kd.own_frozen HT.out.oy k
          have hxo := u8_xor_b l[k] p
          have hmu := mul_u8 l[k] q
          have hmw : IntKind.u8.wrap ((l[k].toNat : Int) * (q.toNat : Int)) = ((l[k] * q).toNat : Int) := by rw [IntKind.wrap_u8]; exact hmu
          have e1 := Lib.hid (u8_xor_b l[k] (l[k] ^^^ p))
          have e2 := Lib.hid (u8_xor_b (l[k] ^^^ (l[k] ^^^ p)) (l[k] * q))
          have hz1 : Hid ((xs l p k).set k (l[k] ^^^ p) = xs l p (k + 1)) := Lib.hid (step_set l (· ^^^ p) k hlt)
          have hz2 : Hid ((ys l q k).set k (l[k] * q) = ys l q (k + 1)) := Lib.hid (step_set l (· * q) k hlt)
          have hz3 : Hid ((zs l p q k).set k (l[k] ^^^ (l[k] ^^^ p) ^^^ (l[k] * q)) = zs l p q (k + 1)) := Lib.hid (step_set l (fun c => c ^^^ (c ^^^ p) ^^^ (c * q)) k hlt)
          have hgx : Hid (∀ h : k < (xs l p (k + 1)).length, (xs l p (k + 1))[k] = l[k] ^^^ p) := Lib.hid (fun h => get_left l (· ^^^ p) k hlt k h rfl)
          have hgy : Hid (∀ h : k < (ys l q (k + 1)).length, (ys l q (k + 1))[k] = l[k] * q) := Lib.hid (fun h => get_left l (· * q) k hlt k h rfl)
          generalize l[k] ^^^ (l[k] ^^^ p) ^^^ (l[k] * q) = zk at *
          generalize l[k] ^^^ (l[k] ^^^ p) = tk at *
          generalize l[k] ^^^ p = xk at *
          generalize l[k] * q = yk at *
          generalize l[k] = lk at *
          obtain ⟨ux, hux, _⟩ := Kd.own_cell rfl HT.out.ox (i := k) (by rw [HT.out.lx]; exact hlt)
          obtain ⟨uy, huy, _⟩ := Kd.own_cell rfl HT.out.oy (i := k) (by rw [HT.out.ly]; exact hlt)
          have hxy := HT.out.xy
          have hyx := HT.out.xy.symm
          go_upto_region 7 with fail
          go_cut [] (fun wx => Hid (Tri w wx gx gy gz l.length ((xs l p k).set k xk) ((ys l q k).set k yk) (zs l p q k)))
          case first =>
            go_region
            all_goals go_wp2_with fail
            all_goals go_meet
            all_goals first
              | exact Lib.hid ((HT.out.setx hlt _).sety hlt _).drew
              | exact Lib.hid ((HT.out.sety hlt _).setx hlt _).drew
          case rest =>
            have HT2 := hcut
            clear hcut hc hfx hfy hxo hmu hmw hux huy hxy hyx
            rw [hz1.out, hz2.out] at HT2
            have hc : wc.cell? (ad.add k) = some (.int .u8 (lk.toNat : Int)) := cell_same HC.out (HT2.out.bel.block _ (cell_lt HC.out))
            have hxl : k < (xs l p (k + 1)).length := by rw [HT2.out.lx]; exact hlt
            have hyl : k < (ys l q (k + 1)).length := by rw [HT2.out.ly]; exact hlt
            have hcx := HT2.out.cellx hxl
            rw [hgx.out hxl] at hcx
            have hcy := HT2.out.celly hyl
            rw [hgy.out hyl] at hcy
            have hfz := Kd.own_frozen HT2.out.oz k
            clear hxl hyl
            obtain ⟨uz, huz, _⟩ := Kd.own_cell rfl HT2.out.oz (i := k) (by rw [HT2.out.lz]; exact hlt)
            have e1 := e1.out
            have e2 := e2.out
            go_wp2_with fail
            go_region
            all_goals go_wp2_with fail
            all_goals go_roundw
            case rel => exact ⟨k + 1, by omega, by go_num, by rw [← hz3.out]; exact Lib.hid (HT2.out.setz hlt _).drew⟩
            case measure => simp [intOf]; omega
        · obtain rfl : k = l.length := by omega
          have HX : Hid (xs l p l.length = l.map (· ^^^ p)) := by
            have : xs l p l.length = l.map (· ^^^ p) := by simp [xs]
            exact Lib.hid this
          have HY : Hid (ys l q l.length = l.map (· * q)) := by
            have : ys l q l.length = l.map (· * q) := by simp [ys]
            exact Lib.hid this
          have HZ : Hid (zs l p q l.length = (l.zipWith (· ^^^ ·) (l.map (· ^^^ p))).zipWith (· ^^^ ·) (l.map (· * q))) := by
            have : zs l p q l.length = (l.zipWith (· ^^^ ·) (l.map (· ^^^ p))).zipWith (· ^^^ ·) (l.map (· * q)) := by rw [← xor3]; simp [zs]
            exact Lib.hid this
          have HL := Lib.hid (Kd.M_below (Kd.u8_sl h1 h2 h3 HR.out) HT.out.bel)
          have mx := Lib.hid (Kd.own_sl (ok' := fun _ => True) HT.out.ox (fun _ _ => trivial) (fun _ _ => trivial))
          have my := Lib.hid (Kd.own_sl (ok' := fun _ => True) HT.out.oy (fun _ _ => trivial) (fun _ _ => trivial))
          have mz := Lib.hid (Kd.own_sl (ok' := fun _ => True) HT.out.oz (fun _ _ => trivial) (fun _ _ => trivial))
          have hb := Lib.hid HT.out.bel
          rw [HX.out] at mx
          rw [HY.out] at my
          rw [HZ.out] at mz
          clear HX HY HZ HT
          have hsum := Lib.hid (crc_xor3 l (l.map (· ^^^ p)) (l.map (· * q)) (by simp) (by simp))
          generalize (l.zipWith (· ^^^ ·) (l.map (· ^^^ p))).zipWith (· ^^^ ·) (l.map (· * q)) = lz at *
          generalize l.map (· ^^^ p) = lx at *
          generalize l.map (· * q) = ly at *
          have b1 := Lib.hid (bel_alloc (Below.refl wr.heap.size wr) (.cells #[.slice (some ⟨gz, 0, none⟩) l.length l.length] 22))
          have b2 := Lib.hid (bel_alloc b1.out (.cells #[.slice A l.length c] 22))
          have b3 := Lib.hid (bel_alloc b2.out (.cells #[.slice (some ⟨gx, 0, none⟩) l.length l.length] 22))
          have b4 := Lib.hid (bel_alloc b3.out (.cells #[.slice (some ⟨gy, 0, none⟩) l.length l.length] 22))
          go_wp2_with fail
          refine (sum_calls [lz] _ _ (fun _ => True) _ (by simp [maxLen]) (one_row (by simp) mz.out)).mono ?_
          rintro e w' ⟨rfl, rfl⟩
          rw [show [lz].flatten = lz by simp]
          go_wp2_with fail
          refine (sum_calls [l] _ _ (fun _ => True) _ (by simp [maxLen]) (one_row (by simp) (Kd.M_below HL.out b1.out))).mono ?_
          rintro e w' ⟨rfl, rfl⟩
          rw [show [l].flatten = l by simp]
          go_wp2_with fail
          refine (sum_calls [lx] _ _ (fun _ => True) _ (by simp [maxLen]) (one_row (by simp) (Kd.M_below mx.out b2.out))).mono ?_
          rintro e w' ⟨rfl, rfl⟩
          rw [show [lx].flatten = lx by simp]
          have x1 := xor_i64 (crc l) (crc lx) (by have := crc_lt l; omega) (by have := crc_lt lx; omega)
          have x2 := xor_i64 (crc l ^^^ crc lx) (crc ly) (by have := xor_lt24 (crc_lt l) (crc_lt lx); omega) (by have := crc_lt ly; omega)
          go_wp2_with fail
          refine (sum_calls [ly] _ _ (fun _ => True) _ (by simp [maxLen]) (one_row (by simp) (Kd.M_below my.out b3.out))).mono ?_
          rintro e w' ⟨rfl, rfl⟩
          rw [show [ly].flatten = ly by simp]
          rw [hsum.out]
          have hqq : (((crc l ^^^ crc lx ^^^ crc ly : Nat) : Int) == ((crc l ^^^ crc lx ^^^ crc ly : Nat) : Int)) = true := by simp
          go_wp2_with fail
          refine (known_calls _).mono ?_
          rintro e w' ⟨rfl, hb3⟩
          have hb4 : Below w.heap.size w w' := bel_step (bel_step hb.out b4.out) hb3
          go_wp2_with fail
          go_ret
          exact ⟨rfl, hb4⟩

open Go.Maps
theorem lawI : Keyed Try.prog 3 := int_keyed Try.underlying3
theorem zeroI (w : World) : (zeroValue 3).run Try.prog w = .ok (.int .i64 0) w := by kernel_rfl

/-- The row of the law's round c. -/
def rowOf (n i : Nat) (c : UInt8) : List UInt8 := (List.replicate n (0 : UInt8)).set i c
def keyOf' (n i c : Nat) : Lit := .int .i64 ((crc (rowOf n i (UInt8.ofNat c)) : Nat) : Int)
theorem key_ne (n i : Nat) (hi : i < n) (a b : Nat) (ha : a < 256) (hb : b < 256) (h : a ≠ b) : keyOf' n i a ≠ keyOf' n i b := by
  intro e
  unfold keyOf' at e
  simp only [Lit.int.injEq, true_and] at e
  have e2 : crc (rowOf n i (UInt8.ofNat a)) = crc (rowOf n i (UInt8.ofNat b)) := by omega
  unfold rowOf at e2
  have hl : i < ((List.replicate n (0 : UInt8)).set i (UInt8.ofNat b)).length := by simp; exact hi
  have e3 := crc_set ((List.replicate n (0 : UInt8)).set i (UInt8.ofNat b)) i hl (UInt8.ofNat a) (by rw [List.set_set]; exact e2)
  rw [List.getElem_set_self] at e3
  have := congrArg UInt8.toNat e3
  rw [UInt8.toNat_ofNat', UInt8.toNat_ofNat'] at this
  omega
theorem map_move {w w1 : World} {b n : Nat} {D : DataW Unit} (h : w.ownsMap Try.prog 3 (plainElem Try.prog 3) b n D) (hm : b < w.heap.size → w1.heap[b]? = w.heap[b]?) : w1.ownsMap Try.prog 3 (plainElem Try.prog 3) b n D := by
  obtain ⟨es, clock, h1, h2⟩ := h
  exact ⟨es, clock, (hm (Array.getElem?_eq_some_iff.1 h1).1).trans h1, h2⟩
/-- What the map holds behind k rounds. -/
def MapAt (n i k : Nat) (w : World) (b : Nat) : Prop :=
  ∃ D : DataW Unit, w.ownsMap Try.prog 3 (plainElem Try.prog 3) b k D ∧ Maps.size D = k ∧ ∀ c, k ≤ c → c < 256 → Maps.has D (keyOf' n i c) = false

set_option maxHeartbeats 1600000 in
set_option maxRecDepth 100000 in
theorem each (w : World) (n' : Int) (hn' : -9223372036854775808 ≤ n' ∧ n' ≤ 9223372036854775807) (i' : Int) (hi' : -9223372036854775808 ≤ i' ∧ i' ≤ 9223372036854775807) :
    Calls Try.prog 7 #[.int .i64 n', .int .i64 i'] w fun e w' => e = .returned (.bool true) ∧ Below w.heap.size w w' := by
  by_cases hbad : n' < 1 ∨ 60 < n' ∨ i' < 0 ∨ n' ≤ i'
  · by_cases c1 : n' < 1
    · have q1 : decide (n' < 1) = true := decide_eq_true c1
      go_enter Try.func7, Try.ntmps7
      go_wp2
      go_ret
      exact ⟨rfl, Below.refl _ _⟩
    · have q1 : decide (n' < 1) = false := decide_eq_false c1
      by_cases c2 : 60 < n'
      · have q2 : decide (60 < n') = true := decide_eq_true c2
        go_enter Try.func7, Try.ntmps7
        go_wp2
        go_ret
        exact ⟨rfl, Below.refl _ _⟩
      · have q2 : decide (60 < n') = false := decide_eq_false c2
        by_cases c3 : i' < 0
        · have q3 : decide (i' < 0) = true := decide_eq_true c3
          go_enter Try.func7, Try.ntmps7
          go_wp2
          go_ret
          exact ⟨rfl, Below.refl _ _⟩
        · have q3 : decide (i' < 0) = false := decide_eq_false c3
          have q4 : decide (n' ≤ i') = true := decide_eq_true (by omega)
          go_enter Try.func7, Try.ntmps7
          go_wp2
          go_ret
          exact ⟨rfl, Below.refl _ _⟩
  · obtain ⟨n, rfl⟩ := Int.eq_ofNat_of_zero_le (show 0 ≤ n' by omega)
    obtain ⟨i, rfl⟩ := Int.eq_ofNat_of_zero_le (show 0 ≤ i' by omega)
    have hn1 : 1 ≤ n := by omega
    have hn2 : n ≤ 60 := by omega
    have hin : i < n := by omega
    clear hbad hn' hi'
    have q1 : decide ((n : Int) < 1) = false := decide_eq_false (by omega)
    have q2 : decide ((60 : Int) < (n : Int)) = false := decide_eq_false (by omega)
    have q3 : decide ((i : Int) < 0) = false := decide_eq_false (by omega)
    have q4 : decide (n ≤ i) = false := decide_eq_false (by omega)
    have hmm := @run_makeMap Try.prog
    have HM := Lib.hid (run_make_row' (P := Try.prog) 22 5 (.int .u8 0) 1 Try.underlying22 info_u8 rfl .i64 .i64 n (by omega) (by omega))
    go_enter Try.func7, Try.ntmps7
    go_wp2
    clear hmm
    go_loopw [6] (fun ci wr => ∃ k : Nat, k ≤ 256 ∧ ci = .int .i64 k ∧ Hid (MapAt n i k wr w.heap.size) ∧ Hid (Below w.heap.size w wr) ∧ w.heap.size < wr.heap.size) (fun ci _ => 256 - (intOf ci).toNat)
    case atStart => exact ⟨0, by omega, rfl, Lib.hid ⟨_, World.ownsMap_made _ _ _ _, rfl, fun c _ _ => rfl⟩, Lib.hid (bel_alloc (Below.refl _ _) _), by simp⟩
    case round =>
      obtain ⟨k, hk, rfl, HD, HB, hsz⟩ := hrel
      by_cases hlt : k < 256
      · have hmk := HM.out
        have HO : byteK.own 5 (wr.alloc (.cells (madeCells #[.int .u8 0] n) 5)) wr.heap.size (fun _ => True) (.slice (some ⟨wr.heap.size, 0, none⟩) n n) (List.replicate n 0) :=
          made_row (Nat.le_refl _) (by omega) (Kd.heap_new _ _)
        obtain ⟨u, hu, _⟩ := Kd.own_cell rfl HO (i := i) (by simp; exact hin)
        have hf := Kd.own_frozen HO i
        clear HO
        have HC : Hid (((madeCells #[.int .u8 0] n).setIfInBounds i (.int .u8 (k : Int))).toList = (rowOf n i (UInt8.ofNat k)).map fun c => Value.int .u8 (c.toNat : Int)) := by
          have e : ((UInt8.ofNat k).toNat : Int) = (k : Int) := by rw [UInt8.toNat_ofNat']; omega
          have : ((madeCells #[.int .u8 0] n).setIfInBounds i (.int .u8 (k : Int))).toList = (rowOf n i (UInt8.ofNat k)).map fun c => Value.int .u8 (c.toNat : Int) := by
            rw [Array.toList_setIfInBounds, toList_madeCells_one, rowOf, List.map_set, List.map_replicate, e]
            rfl
          exact Lib.hid this
        have HL : Hid ((rowOf n i (UInt8.ofNat k)).length = n) := by
          have : (rowOf n i (UInt8.ofNat k)).length = n := by simp [rowOf]
          exact Lib.hid this
        have HK : Hid (keyOf' n i k = .int .i64 ((crc (rowOf n i (UInt8.ofNat k)) : Nat) : Int)) := Lib.hid rfl
        generalize hrw : rowOf n i (UInt8.ofNat k) = rw' at *
        clear hrw
        go_wp2_with fail
        refine (sum_calls [rw'] (some ⟨wr.heap.size + 1, 0, none⟩) _ (fun _ => True) _ (by simp [maxLen]) ?row).mono ?_
        case row =>
          have m := Kd.u8_sl (A := some ⟨wr.heap.size, 0, none⟩) (c := n) (by rw [HL.out]; exact Nat.le_refl _) ⟨by rw [HL.out]; omega, by unfold maxLen; omega⟩ (fun h => by cases h) (Kd.row_u8 (w := wr.alloc (.cells ((madeCells #[.int .u8 0] n).setIfInBounds i (.int .u8 (k : Int))) 5)) (ok := fun _ => True) (Kd.bi_new rfl) trivial HC.out)
          rw [HL.out] at m
          exact one_row (by simp) m
        rintro e w' ⟨rfl, rfl⟩
        rw [show [rw'].flatten = rw' by simp]
        have b3 := Lib.hid (bel_alloc (bel_alloc (Below.refl wr.heap.size wr) (.cells ((madeCells #[.int .u8 0] n).setIfInBounds i (.int .u8 (k : Int))) 5)) (.cells #[.slice (some ⟨wr.heap.size, 0, none⟩) n n] 22))
        generalize (wr.alloc (.cells ((madeCells #[.int .u8 0] n).setIfInBounds i (.int .u8 (k : Int))) 5)).alloc (.cells #[.slice (some ⟨wr.heap.size, 0, none⟩) n n] 22) = w3 at *
        obtain ⟨D, hD1, hD2, hD3⟩ := HD.out
        have hD1' := Lib.hid (map_move hD1 (w1 := w3) (fun h => b3.out.block _ h))
        have HDD := Lib.hid (And.intro hD2 hD3)
        have hkey : Hid (keyOf Try.prog 3 (.int .i64 ((crc rw' : Nat) : Int)) = some (.int .i64 ((crc rw' : Nat) : Int))) :=
          Lib.hid (keyOf_int_mk Try.underlying3 (by have := crc_lt rw'; simp [Lit.wf, IntKind.min, IntKind.max, IntKind.bits, IntKind.signed]; omega))
        have hb3 := Lib.hid (bel_step HB.out b3.out)
        have hsz3 : w.heap.size < w3.heap.size := by have := b3.out.size; omega
        clear hD1 hD2 hD3 hu hf hmk
        go_wp2_with (first
          | (at_lookup; refine wpList_lookup_own_int _ rfl _ _ 31 rfl 3 3 .i64 lawI Try.underlying31 Try.underlying3 (zeroI _) w.heap.size k _ rfl hD1'.out _ _ rfl hkey.out ?_; intro c hat hwc; clear hat hwc)
          | (at_mapUpdate; refine wpList_mapUpdate_own _ rfl _ _ _ 31 rfl 3 3 lawI Try.underlying31 _ w.heap.size k _ rfl hD1'.out (by unfold maxLen; omega) _ _ _ rfl rfl hkey.out _ [] (plainElem_int Try.underlying3 (wrap64_wf _)) ?_; intro w4 hown4 hgrow4; have H4 := Lib.hid hown4; have G4 := Lib.hid hgrow4; clear hown4 hgrow4))
        go_roundw
        case rel =>
          have hh : Maps.has D (keyOf' n i k) = false := HDD.out.2 k (Nat.le_refl _) hlt
          rw [HK.out] at hh
          refine ⟨k + 1, by omega, by go_num, Lib.hid ⟨_, H4.out, ?_, fun c h1 h2 => ?_⟩, Lib.hid (hb3.out.grown G4.out (by omega) (fun j hj => by cases hj; exact Nat.le_refl _)), ?_⟩
          · rw [Maps.size_put (hD1'.out.tidy lawI), hh, HDD.out.1]
            rfl
          · rw [Maps.has_put_other]
            · exact HDD.out.2 c (by omega) h2
            · rw [← HK.out]
              exact key_ne n i hin c k h2 (by omega) (by omega)
          · have := G4.out.size
            omega
        case measure => simp [intOf]; omega
      · obtain rfl : k = 256 := by omega
        obtain ⟨D, hD1, hD2, hD3⟩ := HD.out
        have HDs := Lib.hid hD2
        have HD1 := Lib.hid hD1
        clear hD1 hD2 hD3 HD
        have hlen := HD1.out.len Try.underlying31 3
        rw [HDs.out, show ((256 : Nat) : Int) = 256 from rfl] at hlen
        go_wp2_with fail
        refine (known_calls _).mono ?_
        rintro e w' ⟨rfl, hb3⟩
        have hb4 : Below w.heap.size w w' := bel_step HB.out hb3
        clear hlen
        go_wp2_with fail
        go_ret
        exact ⟨rfl, hb4⟩
end Go.Proofs.Ytimjllokibnibaa.CrcMore
