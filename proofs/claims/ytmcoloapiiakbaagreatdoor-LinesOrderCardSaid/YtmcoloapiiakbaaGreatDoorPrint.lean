/-
  What lines.Print answers.
-/
import Derived.Test.YtmcoloapiiakbaaGreatDoorShow2
import Derived.Test.YtmcoloapiiakbaaGreatDoorTri
import Derived.Test.YtmcoloapiiakbaaGreatDoorQT
set_option linter.unusedVariables false
set_option linter.unusedSimpArgs false
namespace Go.Proofs.YtmcoloapiiakbaaGreatDoor.Print
open Go.RowKit Go.Lib Go.Proofs.YtmcoloapiiakbaaGreatDoor.B Go.Proofs.YtmcoloapiiakbaaGreatDoor.Rd Go.Proofs.YtmcoloapiiakbaaGreatDoor.Utf Go.Proofs.YtmcoloapiiakbaaGreatDoor.TermPure Go.Proofs.YtmcoloapiiakbaaGreatDoor.LinesPure Go.Proofs.YtmcoloapiiakbaaGreatDoor.Tx Go.Proofs.YtmcoloapiiakbaaGreatDoor.Env Go.Proofs.YtmcoloapiiakbaaGreatDoor.Bld Go.Proofs.YtmcoloapiiakbaaGreatDoor.Tri

/-- A triple's line, with its end. -/
def lineN (t : Triple) : List UInt8 := shown t.s ++ (32 :: (shown t.p ++ (32 :: (shown t.o ++ [32, 46, 10]))))
/-- Small triples. -/
def SmallT (t : Triple) : Prop := (t.s.text.length ≤ 1099511627776 ∧ t.s.extra.length ≤ 1099511627776) ∧ (t.p.text.length ≤ 1099511627776 ∧ t.p.extra.length ≤ 1099511627776) ∧ (t.o.text.length ≤ 1099511627776 ∧ t.o.extra.length ≤ 1099511627776)
theorem shown_len (t : Term) : (shown t).length ≤ 6 * t.text.length + t.extra.length + 10 := by
  have := Show.quoted_len t.text
  unfold shown
  repeat' split
  all_goals try simp only [List.length_cons, List.length_append, List.length_nil]
  all_goals omega
theorem box9 (w : World) (t : Triple) (p : QT.Bel (w.alloc (.cells #[.int .i64 t.s.kind, .string (mkS t.s.text), .string (mkS t.s.extra), .int .i64 t.p.kind, .string (mkS t.p.text), .string (mkS t.p.extra), .int .i64 t.o.kind, .string (mkS t.o.text), .string (mkS t.o.extra)] 25))) :
    p.w.cell? ⟨w.heap.size, 0, none⟩ = some (.int .i64 t.s.kind) ∧ p.w.cell? ⟨w.heap.size, 1, none⟩ = some (.string (mkS t.s.text)) ∧ p.w.cell? ⟨w.heap.size, 2, none⟩ = some (.string (mkS t.s.extra)) ∧
    p.w.cell? ⟨w.heap.size, 3, none⟩ = some (.int .i64 t.p.kind) ∧ p.w.cell? ⟨w.heap.size, 4, none⟩ = some (.string (mkS t.p.text)) ∧ p.w.cell? ⟨w.heap.size, 5, none⟩ = some (.string (mkS t.p.extra)) ∧
    p.w.cell? ⟨w.heap.size, 6, none⟩ = some (.int .i64 t.o.kind) ∧ p.w.cell? ⟨w.heap.size, 7, none⟩ = some (.string (mkS t.o.text)) ∧ p.w.cell? ⟨w.heap.size, 8, none⟩ = some (.string (mkS t.o.extra)) := by
  have ht := Ref5.T9.new w t
  exact ⟨p.cell ht.s.c0, p.cell ht.s.c1, p.cell ht.s.c2, p.cell ht.p.c0, p.cell ht.p.c1, p.cell ht.p.c2, p.cell ht.o.c0, p.cell ht.o.c1, p.cell ht.o.c2⟩
theorem flat_take (l : List Triple) (k : Nat) (h : k < l.length) : (l.take (k + 1)).flatMap lineN = (l.take k).flatMap lineN ++ lineN l[k] := by
  rw [List.take_succ_eq_append_getElem h, List.flatMap_append]
  simp
theorem flat_le {l : List Triple} (hn : (l.flatMap lineN).length ≤ 140737488355328) (k : Nat) (h : k < l.length) {x : List UInt8} (hx : (l.take (k + 1)).flatMap lineN = (l.take k).flatMap lineN ++ x) :
    ((l.take k).flatMap lineN).length + x.length ≤ 140737488355328 := by
  rw [← List.length_append, ← hx]
  refine Nat.le_trans ?_ hn
  have : l.flatMap lineN = (l.take (k + 1)).flatMap lineN ++ (l.drop (k + 1)).flatMap lineN := by rw [← List.flatMap_append, List.take_append_drop]
  rw [this, List.length_append]
  omega
set_option maxHeartbeats 4000000 in
set_option maxRecDepth 100000 in
theorem print_calls (l : List Triple) (A : Option Addr) (c : Nat) (w : World) (HL : triK.sl.M w (fun k => k < w.heap.size) l [.slice A l.length c]) (hs : ∀ t ∈ l, SmallT t) (hn : (l.flatMap lineN).length ≤ 140737488355328) :
    Calls Tryz.prog 22 #[.slice A l.length c] w fun e w' => e = .returned (.string (mkS (l.flatMap lineN))) ∧ Below w.heap.size w w' := by
  obtain ⟨A', c', he, hlc, ⟨h47, hcm⟩, hA, hrow⟩ := HL
  obtain ⟨rfl, rfl⟩ : A = A' ∧ c = c' := by simpa using he
  have HROW := Lib.hid hrow
  have HS := Lib.hid hs
  have HN := Lib.hid hn
  have HB0 : Hid (Bld w.heap.size w.heap.size [] (w.alloc (.cells #[.pointer none, .slice none 0 0] 65))) := Lib.hid (Bld.new w)
  clear he hrow hs hn
  go_enter Tryz.func22, Tryz.ntmps22
  go_wp2
  go_loopw [5, 8] (fun v5 vi wr => ∃ k : Nat, k ≤ l.length ∧ vi = .int .i64 k ∧ Hid (Bld w.heap.size w.heap.size ((l.take k).flatMap lineN) wr) ∧ Hid (Below w.heap.size w wr)) (fun _ vi _ => l.length - (intOf vi).toNat)
  case atStart => exact ⟨0, by omega, rfl, HB0, Lib.hid (bel_alloc (Below.refl _ _) _)⟩
  case round =>
    obtain ⟨k, hk, rfl, HB, HW⟩ := hrel
    by_cases hlt : k < l.length
    · have hd : decide (k < l.length) = true := decide_eq_true hlt
      have ik : (k : Int) < (l.length : Int) := by omega
      obtain ⟨b, off, hAe, hb, hbl, hcells⟩ := Kd.row_addr HROW.out (by omega)
      subst hAe
      obtain ⟨cs, ⟨hcs, hfit⟩, hcell⟩ := hcells k hlt
      obtain ⟨t, ht⟩ : ∃ t, t = l[k] := ⟨_, rfl⟩
      rw [← ht] at hcs
      subst hcs
      have mv : ∀ j u, (triL t)[j]? = some u → wr.cell? ⟨b, off + k * 9 + j, none⟩ = some u := fun j u hu => (HW.out.cell (p := ⟨b, off + k * 9 + j, none⟩) hbl).trans (hcell j u hu)
      have z0 : wr.cell? ⟨b, off + k * 9, none⟩ = some (.int .i64 t.s.kind) := mv 0 _ rfl
      have z1 := mv 1 _ rfl
      have z2 := mv 2 _ rfl
      have z3 := mv 3 _ rfl
      have z4 := mv 4 _ rfl
      have z5 := mv 5 _ rfl
      have z6 := mv 6 _ rfl
      have z7 := mv 7 _ rfl
      have z8 := mv 8 _ rfl
      clear hcells hcell mv
      have fs := HS.out t (by rw [ht]; exact List.getElem_mem hlt)
      have HT := Lib.hid (flat_take l k hlt)
      rw [← ht] at HT
      clear ht
      obtain ⟨⟨sk, sx, se⟩, ⟨pk, px, pe⟩, ⟨ok, ox, oe⟩⟩ := t
      dsimp only at z0 z1 z2 z3 z4 z5 z6 z7 z8
      obtain ⟨⟨a1, a2⟩, ⟨a3, a4⟩, ⟨a5, a6⟩⟩ := fs
      dsimp only at a1 a2 a3 a4 a5 a6
      have HS1 := Lib.hid (fun w => Show.show_calls ⟨sk, sx, se⟩ (by dsimp only; omega) (by dsimp only; omega) w)
      have HS2 := Lib.hid (fun w => Show.show_calls ⟨pk, px, pe⟩ (by dsimp only; omega) (by dsimp only; omega) w)
      have HS3 := Lib.hid (fun w => Show.show_calls ⟨ok, ox, oe⟩ (by dsimp only; omega) (by dsimp only; omega) w)
      have l1 := shown_len ⟨sk, sx, se⟩
      have l2 := shown_len ⟨pk, px, pe⟩
      have l3 := shown_len ⟨ok, ox, oe⟩
      dsimp only at l1 l2 l3
      have HLN : Hid (lineN ⟨⟨sk, sx, se⟩, ⟨pk, px, pe⟩, ⟨ok, ox, oe⟩⟩ = shown ⟨sk, sx, se⟩ ++ (32 :: (shown ⟨pk, px, pe⟩ ++ (32 :: (shown ⟨ok, ox, oe⟩ ++ [32, 46, 10]))))) := Lib.hid rfl
      have HBX := Lib.hid (fun p => box9 wr ⟨⟨sk, sx, se⟩, ⟨pk, px, pe⟩, ⟨ok, ox, oe⟩⟩ p)
      have HBe := Lib.hid (bel_alloc (Below.refl wr.heap.size wr) (.cells #[.int .i64 sk, .string (mkS sx), .string (mkS se), .int .i64 pk, .string (mkS px), .string (mkS pe), .int .i64 ok, .string (mkS ox), .string (mkS oe)] 25))
      generalize shown ⟨sk, sx, se⟩ = S1 at *
      generalize shown ⟨pk, px, pe⟩ = S2 at *
      generalize shown ⟨ok, ox, oe⟩ = S3 at *
      have y1 := mkS_size S1
      have y2 := mkS_size S2
      have y3 := mkS_size S3
      have q1 : (⟨#[32]⟩ : ByteArray).size = 1 := rfl
      have q3 : (⟨#[32, 46, 10]⟩ : ByteArray).size = 3 := rfl
      have x1 : (mkS S1 ++ (⟨#[32]⟩ : ByteArray)).size = S1.length + 1 := by rw [ByteArray.size_append, y1, q1]
      have x2 : (mkS S1 ++ (⟨#[32]⟩ : ByteArray) ++ mkS S2).size = S1.length + 1 + S2.length := by rw [ByteArray.size_append, x1, y2]
      have x3 : (mkS S1 ++ (⟨#[32]⟩ : ByteArray) ++ mkS S2 ++ (⟨#[32]⟩ : ByteArray)).size = S1.length + 1 + S2.length + 1 := by rw [ByteArray.size_append, x2, q1]
      have x4 : (mkS S1 ++ (⟨#[32]⟩ : ByteArray) ++ mkS S2 ++ (⟨#[32]⟩ : ByteArray) ++ mkS S3).size = S1.length + 1 + S2.length + 1 + S3.length := by rw [ByteArray.size_append, x3, y3]
      have HCat : Hid (mkS S1 ++ (⟨#[32]⟩ : ByteArray) ++ mkS S2 ++ (⟨#[32]⟩ : ByteArray) ++ mkS S3 ++ (⟨#[32, 46, 10]⟩ : ByteArray) = mkS (lineN ⟨⟨sk, sx, se⟩, ⟨pk, px, pe⟩, ⟨ok, ox, oe⟩⟩)) := Lib.hid (by
        rw [HLN.out, mkS_lit, mkS_lit, mkS_append, mkS_append, mkS_append, mkS_append, mkS_append]
        simp)
      have b0 := fun p => (HBX.out p).1
      have b1 := fun p => (HBX.out p).2.1
      have b2 := fun p => (HBX.out p).2.2.1
      have b3 := fun p => (HBX.out p).2.2.2.1
      have b4 := fun p => (HBX.out p).2.2.2.2.1
      have b5 := fun p => (HBX.out p).2.2.2.2.2.1
      have b6 := fun p => (HBX.out p).2.2.2.2.2.2.1
      have b7 := fun p => (HBX.out p).2.2.2.2.2.2.2.1
      have b8 := fun p => (HBX.out p).2.2.2.2.2.2.2.2
      dsimp only at b0 b1 b2 b3 b4 b5 b6 b7 b8
      clear hfit
      go_upto_region 5 with fail
      refine QT.region_bel 14 (by kernel_rfl) (by kernel_rfl) ?_
      simp only [List.take_succ_cons, List.take_zero, List.drop_succ_cons, List.drop_zero]
      iterate 2 (go_big_quiet_step (fail))
      go_big_quiet_step (exact QT.Bel.call _ (HS1.out _))
      iterate 3 (go_big_quiet_step (fail))
      go_big_quiet_step (exact QT.Bel.call _ (HS2.out _))
      iterate 4 (go_big_quiet_step (fail))
      go_big_quiet_step (exact QT.Bel.call _ (HS3.out _))
      iterate 2 (go_big_quiet_step (fail))
      refine wpQuiet_nil ?_
      intro w2 hw'
      obtain ⟨⟨_, hb⟩, rfl⟩ := hw'
      have HB2 := Lib.hid ((HB.out.below HBe.out).below hb)
      have HW2 := Lib.hid (bel_step (bel_step HW.out HBe.out) hb)
      have hz2 : w.heap.size ≤ w2.heap.size := HW2.out.size
      have HLen := Lib.hid (flat_le HN.out k hlt HT.out)
      clear hb b0 b1 b2 b3 b4 b5 b6 b7 b8 HB z0 z1 z2 z3 z4 z5 z6 z7 z8
      go_wp2_with fail
      rw [HCat.out]
      refine (Bld.writeString_calls _ _ _ _ w2 HB2.out HLen.out hz2).mono ?_
      rintro e w3 ⟨⟨v, rfl⟩, hB3, hb3⟩
      have HB3 := Lib.hid hB3
      have HW3 := Lib.hid (HW2.out.trans hb3)
      clear hB3 hb3 HB2 HW2
      go_wp2
      go_roundw
      case rel => exact ⟨k + 1, by omega, by go_num, Lib.hid (by rw [HT.out]; exact HB3.out), HW3⟩
      case measure => simp [intOf]; omega
    · have hd : decide (k < l.length) = false := decide_eq_false hlt
      obtain rfl : k = l.length := by omega
      have HB' : Hid (Bld w.heap.size w.heap.size (l.flatMap lineN) wr) := Lib.hid (by have := HB.out; rwa [List.take_length] at this)
      have hz2 : w.heap.size ≤ wr.heap.size := HW.out.size
      clear HB
      go_wp2_with fail
      refine (string_calls _ _ _ wr HB'.out hz2).mono ?_
      rintro e w2 ⟨rfl, _, hK2⟩
      have HW2 := Lib.hid (HW.out.trans hK2)
      clear hK2 HB'
      go_wp2
      go_ret
      exact ⟨rfl, HW2.out⟩
end Go.Proofs.YtmcoloapiiakbaaGreatDoor.Print
