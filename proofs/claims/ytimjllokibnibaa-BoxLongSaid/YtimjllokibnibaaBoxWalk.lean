/-
  What box's small functions answer.
-/
import Derived.Test.YtimjllokibnibaaBoxPure
import Derived.Test.YtimjllokibnibaaCrcLaws
import Derived.Deep.QuietTactic
import Derived.BigQuiet
import Derived.WalkSpells
set_option linter.unusedVariables false
set_option linter.unusedSimpArgs false
namespace Go.Proofs.Ytimjllokibnibaa.BoxWalk
open Go.RowKit Go.Proofs.Ytimjllokibnibaa.CrcPure Go.Proofs.Ytimjllokibnibaa.BoxPure Go.Proofs.Ytimjllokibnibaa.B Go.Proofs.Ytimjllokibnibaa.CrcWalk Go.Proofs.Ytimjllokibnibaa.CrcLaws

abbrev T : Nat → Prop := fun _ => True
/-- A new row of bytes is handed back. -/
def NewBytes (l : List UInt8) (w : World) (e : Ending) (w' : World) : Prop :=
  ∃ v, e = .returned v ∧ byteK.own 5 w' w.heap.size T v l ∧ Below w.heap.size w w'

theorem three_own (n : Nat) (h : n < 16777216) (w : World) :
    byteK.own 5 (w.alloc (.cells #[.int .u8 ((n : Int) / 65536), .int .u8 ((n : Int) / 256 % 256), .int .u8 ((n : Int) % 256)] 5)) w.heap.size T (.slice (some ⟨w.heap.size, 0, none⟩) 3 3) (three n) := by
  have e := three_cells n h
  have hh := Kd.heap_new w (.cells #[.int .u8 ((n : Int) / 65536), .int .u8 ((n : Int) / 256 % 256), .int .u8 ((n : Int) % 256)] 5)
  exact Kd.own_block (cells := [.int .u8 ((n : Int) / 65536), .int .u8 ((n : Int) / 256 % 256), .int .u8 ((n : Int) % 256)]) (xs := three n) (Nat.le_refl _) hh rfl (by simp [three]) (fun i x hx => by
    have := u8_lit _ i x hx
    rw [← e] at this
    exact this)

set_option maxHeartbeats 400000 in
theorem laid_calls (n : Nat) (hn : n < 16777216) (w : World) :
    Calls Try.prog 29 #[.int .i64 n] w (NewBytes (three n) w) := by
  go_enter Try.func29, Try.ntmps29
  go_wp2
  go_ret
  exact ⟨_, rfl, three_own n hn w, bel_alloc (Below.refl _ _) _⟩
set_option maxHeartbeats 400000 in
theorem refthree_calls (n : Nat) (hn : n < 16777216) (w : World) :
    Calls Try.prog 30 #[.int .i64 n] w (NewBytes (three n) w) := by
  go_enter Try.func30, Try.ntmps30
  go_wp2
  go_ret
  exact ⟨_, rfl, three_own n hn w, bel_alloc (Below.refl _ _) _⟩

theorem or_bytes (a b c : UInt8) : Go.bits .or .i64 (Go.bits .or .i64 ((a.toNat : Int) * 65536) ((b.toNat : Int) * 256)) (c.toNat : Int) = ((a.toNat * 65536 + b.toNat * 256 + c.toNat : Nat) : Int) := by
  have ha := a.toNat_lt
  have hb := b.toNat_lt
  have hc := c.toNat_lt
  have hk : ∀ n : Int, 0 ≤ n → n < 2 ^ 63 → IntKind.i64.wrap n = n := fun n h0 h1 => by rw [IntKind.wrap_i64]; omega
  rw [bits_join .i64 63 (by decide) hk 16 ((a.toNat : Int) * 65536) ((b.toNat : Int) * 256) (by omega) (by omega) (by omega) (by omega) (by omega) (by omega)]
  rw [bits_join .i64 63 (by decide) hk 8 ((a.toNat : Int) * 65536 + (b.toNat : Int) * 256) (c.toNat : Int) (by omega) (by omega) (by omega) (by omega) (by omega) (by omega)]
  omega

theorem getD_at (l : List UInt8) (i : Nat) (h : i < l.length) : l.getD i 0 = l[i] := by rw [List.getD_eq_getElem?_getD, List.getElem?_eq_getElem h]; rfl

theorem u8_plain {w : World} {ok : Nat → Prop} {A : Option Addr} {l : List UInt8} (h : byteK.row w ok A l) (hp : 0 < l.length) :
    ∃ b off, A = some ⟨b, off, none⟩ ∧ ∀ i (hi : i < l.length), w.cell? ⟨b, off + i, none⟩ = some (.int .u8 (l[i].toNat : Int)) := by
  obtain ⟨b, off, h1, _, h2⟩ := Kd.row_plain rfl h hp
  refine ⟨b, off, h1, fun i hi => ?_⟩
  obtain ⟨u, hu, hM⟩ := h2 i hi
  obtain rfl : u = .int .u8 (l[i].toNat : Int) := by simpa [byteK, flat] using hM
  exact hu
set_option maxHeartbeats 800000 in
theorem number_calls (l : List UInt8) (h3 : 3 ≤ l.length) (v : Value) (ok : Nat → Prop) (w : World) (m : byteK.sl.M w ok l [v]) :
    Calls Try.prog 31 #[v] w fun e w' => e = .returned (.int .i64 (num l : Nat)) ∧ ∃ n, w' = w.drewN n := by
  obtain ⟨A, c, hv, h1, h2, _, hr⟩ := m
  simp at hv
  subst hv
  obtain ⟨b, off, rfl, hcell⟩ := u8_plain hr (by omega)
  have c0 := hcell 0 (by omega)
  have c1 := hcell 1 (by omega)
  have c2 := hcell 2 (by omega)
  rw [Nat.add_zero] at c0
  clear hcell
  have HN : Hid (num l = l[0].toNat * 65536 + l[1].toNat * 256 + l[2].toNat) := by
    have : num l = l[0].toNat * 65536 + l[1].toNat * 256 + l[2].toNat := by
      unfold num
      rw [getD_at l 0 (by omega), getD_at l 1 (by omega), getD_at l 2 (by omega)]
    exact Lib.hid this
  have HE := Lib.hid (or_bytes l[0] l[1] l[2])
  have b0 := l[0].toNat_lt
  have b1 := l[1].toNat_lt
  have b2 := l[2].toNat_lt
  generalize l[0] = x at *
  generalize l[1] = y at *
  generalize l[2] = z at *
  have i0 : (0 : Int) < (l.length : Int) := by omega
  have i1 : (1 : Int) < (l.length : Int) := by omega
  have i2 : (2 : Int) < (l.length : Int) := by omega
  have j0 : 0 < l.length := by omega
  have w1 : IntKind.i64.wrap ((x.toNat : Int) * 65536) = (x.toNat : Int) * 65536 := by rw [IntKind.wrap_i64]; omega
  have w2 : IntKind.i64.wrap ((y.toNat : Int) * 256) = (y.toNat : Int) * 256 := by rw [IntKind.wrap_i64]; omega
  clear hr h1 h2
  go_enter Try.func31, Try.ntmps31
  go_wp2
  go_quiet (fail)
  go_wp2
  go_ret
  exact ⟨ret_int (by rw [HN.out, ← HE.out]), _, rfl⟩

set_option maxHeartbeats 800000 in
theorem clone_calls (l : List UInt8) (v : Value) (w : World) (m : byteK.sl.M w T l [v]) :
    Calls Try.prog 32 #[v] w (NewBytes l w) := by
  obtain ⟨A, c, hv, h1, h2, h3, hr⟩ := m
  simp at hv
  subst hv
  cases A with
  | none =>
    have hc := h3 rfl
    have hl : l = [] := List.eq_nil_of_length_eq_zero (by omega)
    subst hl
    subst hc
    have he := fun (w : World) (a : Option Addr) (n c : Nat) => Lib.run_eql_slice_nil (P := Try.prog) w 22 5 a n c 0 0 Try.underlying22
    go_enter Try.func32, Try.ntmps32
    go_wp2
    go_ret
    exact ⟨_, rfl, Kd.own_nil _ _ _ _ _, Below.refl _ _⟩
  | some ad =>
    have he := fun (w : World) (a : Option Addr) (n c : Nat) => Lib.run_eql_slice_nil (P := Try.prog) w 22 5 a n c 0 0 Try.underlying22
    have b0 : Below w.heap.size w (w.alloc (.cells #[] 5)) := bel_alloc (Below.refl _ _) _
    have HO0 : Hid (byteK.own 5 (w.alloc (.cells #[] 5)) w.heap.size T (.slice (some ⟨w.heap.size, 0, none⟩) 0 0) []) :=
      Lib.hid (Kd.own_block (cells := []) (xs := []) (Nat.le_refl _) (Kd.heap_new _ _) rfl (by simp) (fun i x h => by simp at h))
    have HR0 := Lib.hid (Kd.M_below (Kd.u8_sl h1 h2 h3 hr) b0)
    clear hr
    go_enter Try.func32, Try.ntmps32
    go_wp2_with (at_builtin; refine Kd.own_app byteK w.heap.size rfl (.tmp 5) (.tmp 6) 22 5 (.int .u8 0) 1 rfl Try.underlying22 info_u8 rfl (by decide) _ [] l (some ad) c T rfl rfl HO0.out (.inr ⟨HR0.out, any_u8⟩) b0 (by simp) (by simp; omega) ?_; intro v1 w1 ho1 hb1 hg1 hv1; clear hg1 hv1; rw [List.nil_append] at ho1; have HO1 := Lib.hid ho1; clear ho1)
    go_ret
    exact ⟨_, rfl, HO1.out, hb1⟩

theorem mkS_beq (a b : List UInt8) : ((mkS a).toList == (mkS b).toList) = (a == b) := by
  rw [show (mkS a).toList = a from ByteArray.toList_mk a, show (mkS b).toList = b from ByteArray.toList_mk b]
set_option maxHeartbeats 400000 in
theorem equal_calls (a b : List UInt8) (va vb : Value) (ok ok' : Nat → Prop) (w : World) (ma : byteK.sl.M w ok a [va]) (mb : byteK.sl.M w ok' b [vb]) :
    Calls Try.prog 33 #[va, vb] w fun e w' => e = .returned (.bool (a == b)) ∧ w = w' := by
  obtain ⟨A, c, hv, _, _, _, hr⟩ := ma
  simp at hv
  subst hv
  obtain ⟨A', c', hv, _, _, _, hr'⟩ := mb
  simp at hv
  subst hv
  have h1 := conv_string (P := Try.prog) (w := w) (c := c) Try.underlying22 Try.underlying5 Try.underlying9 hr
  have h2 := conv_string (P := Try.prog) (w := w) (c := c') Try.underlying22 Try.underlying5 Try.underlying9 hr'
  have he := mkS_beq a b
  clear hr hr'
  generalize mkS a = sa at *
  generalize mkS b = sb at *
  generalize (a == b) = r at *
  go_enter Try.func33, Try.ntmps33
  go_wp2
  go_ret
  exact ⟨rfl, rfl⟩
end Go.Proofs.Ytimjllokibnibaa.BoxWalk
