/-
  Whether triples are more than is looked at; whether all may be.
-/
import Derived.Test.YtmcoloapiiakbaaGreatDoorRefCmp2
set_option linter.unusedVariables false
set_option linter.unusedSimpArgs false
namespace Go.Proofs.YtmcoloapiiakbaaGreatDoor.Long
open Go.RowKit Go.Lib Go.Proofs.YtmcoloapiiakbaaGreatDoor.B Go.Proofs.YtmcoloapiiakbaaGreatDoor.Rd Go.Proofs.YtmcoloapiiakbaaGreatDoor.Utf Go.Proofs.YtmcoloapiiakbaaGreatDoor.TermPure Go.Proofs.YtmcoloapiiakbaaGreatDoor.LinesPure Go.Proofs.YtmcoloapiiakbaaGreatDoor.Tx Go.Proofs.YtmcoloapiiakbaaGreatDoor.Env Go.Proofs.YtmcoloapiiakbaaGreatDoor.Tri Go.Proofs.YtmcoloapiiakbaaGreatDoor.SortP Go.Proofs.YtmcoloapiiakbaaGreatDoor.Print Go.Proofs.YtmcoloapiiakbaaGreatDoor.Cmp

def wt (t : Triple) : Nat := 3 + t.s.text.length + t.s.extra.length + t.p.text.length + t.p.extra.length + t.o.text.length + t.o.extra.length
def total : List Triple → Nat
  | [] => 0
  | t :: l => wt t + total l
theorem total_append : ∀ a b : List Triple, total (a ++ b) = total a + total b
  | [], b => by simp [total]
  | t :: a, b => by rw [List.cons_append, total, total_append a b, total]; omega
theorem total_take (l : List Triple) (k : Nat) (h : k < l.length) : total (l.take (k + 1)) = total (l.take k) + wt l[k] := by
  rw [List.take_succ_eq_append_getElem h, total_append]
  simp [total]
theorem total_le (l : List Triple) (k : Nat) : total (l.take k) ≤ total l := by
  have := total_append (l.take k) (l.drop k)
  rw [List.take_append_drop] at this
  omega
theorem wt_le : ∀ (l : List Triple) (t : Triple), t ∈ l → wt t ≤ total l
  | x :: l, t, h => by
    rw [total]
    rcases List.mem_cons.1 h with rfl | h
    · omega
    · have := wt_le l t h; omega
theorem len_le : ∀ l : List Triple, 3 * l.length ≤ total l
  | [] => by simp [total]
  | t :: l => by
    have := len_le l
    rw [total, List.length_cons]
    unfold wt
    omega
theorem small_of {l : List Triple} (h : total l ≤ 9000) : ∀ t ∈ l, SmallT t := fun t ht => by
  have := wt_le l t ht
  unfold wt at this
  unfold SmallT
  omega
theorem fits_of {l : List Triple} (hf : ∀ t ∈ l, FitsW3 t) (h : total l ≤ 9000) : ∀ t ∈ l, Ref5.FitsT t := fun t ht => by
  have h1 := wt_le l t ht
  obtain ⟨⟨a1, _, _⟩, ⟨a2, _, _⟩, ⟨a3, _, _⟩⟩ := hf t ht
  unfold wt at h1
  exact ⟨⟨a1, by omega, by omega⟩, ⟨a2, by omega, by omega⟩, ⟨a3, by omega, by omega⟩⟩
/-- A row of triples that is read. -/
theorem row_fits {w : World} {ok : Nat → Prop} {l : List Triple} {v : Value} (h : triK.sl.M w ok l [v]) : ∀ t ∈ l, FitsW3 t := by
  obtain ⟨A, c, _, _, _, _, hrow⟩ := h
  intro t ht
  obtain ⟨k, hk, rfl⟩ := List.mem_iff_getElem.1 ht
  obtain ⟨_, _, _, h, _⟩ := Kd.row_at hrow hk
  exact h.2
/-- A triple's cells, where it lies. -/
structure C9 (w : World) (g o : Nat) (t : Triple) : Prop where
  c0 : w.cell? ⟨g, o, none⟩ = some (.int .i64 t.s.kind)
  c1 : w.cell? ⟨g, o + 1, none⟩ = some (.string (mkS t.s.text))
  c2 : w.cell? ⟨g, o + 2, none⟩ = some (.string (mkS t.s.extra))
  c3 : w.cell? ⟨g, o + 3, none⟩ = some (.int .i64 t.p.kind)
  c4 : w.cell? ⟨g, o + 4, none⟩ = some (.string (mkS t.p.text))
  c5 : w.cell? ⟨g, o + 5, none⟩ = some (.string (mkS t.p.extra))
  c6 : w.cell? ⟨g, o + 6, none⟩ = some (.int .i64 t.o.kind)
  c7 : w.cell? ⟨g, o + 7, none⟩ = some (.string (mkS t.o.text))
  c8 : w.cell? ⟨g, o + 8, none⟩ = some (.string (mkS t.o.extra))
theorem C9.of {w : World} {g o : Nat} {t : Triple} (h : ∀ j u, (triL t)[j]? = some u → w.cell? ⟨g, o + j, none⟩ = some u) : C9 w g o t :=
  ⟨h 0 _ rfl, h 1 _ rfl, h 2 _ rfl, h 3 _ rfl, h 4 _ rfl, h 5 _ rfl, h 6 _ rfl, h 7 _ rfl, h 8 _ rfl⟩
theorem C9.lt {w : World} {g o : Nat} {t : Triple} (h : C9 w g o t) : g < w.heap.size := World.block_lt_of_cell? w ⟨g, o, none⟩ h.c0
theorem C9.moved {w w' : World} {g o : Nat} {t : Triple} (h : C9 w g o t) (hm : w'.heap[g]? = w.heap[g]?) : C9 w' g o t :=
  have k : ∀ {i v}, w.cell? ⟨g, i, none⟩ = some v → w'.cell? ⟨g, i, none⟩ = some v := fun {i v} hc => (World.cell?_of_block (a := ⟨g, i, none⟩) hm).trans hc
  ⟨k h.c0, k h.c1, k h.c2, k h.c3, k h.c4, k h.c5, k h.c6, k h.c7, k h.c8⟩
theorem C9.below {w w' : World} {g o : Nat} {t : Triple} (h : C9 w g o t) (hb : Below w.heap.size w w') : C9 w' g o t := h.moved (hb.block g h.lt)
theorem C9.new (w : World) (t : Triple) : C9 (w.alloc (.cells (triL t).toArray 25)) w.heap.size 0 t := C9.of (fun j u hu => by
  rw [Nat.zero_add, World.cell?, Kd.heap_new]
  simpa using hu)
theorem C9.alloc {w : World} {g o : Nat} {t : Triple} (h : C9 w g o t) (x : Obj) : C9 (w.alloc x) g o t := h.below (bel_alloc (Below.refl _ _) x)
/-- Where a row that is read lies. -/
theorem row_cells {w : World} {l : List Triple} {A : Option Addr} {c : Nat} (h : triK.sl.M w (fun k => k < w.heap.size) l [.slice A l.length c]) (k : Nat) (hk : k < l.length) :
    ∃ b off, A = some ⟨b, off, none⟩ ∧ b < w.heap.size ∧ ∀ i (hi : i < l.length), C9 w b (off + i * 9) l[i] := by
  obtain ⟨A', c', he, hlc, _, hA, hrow⟩ := h
  obtain ⟨rfl, rfl⟩ : A = A' ∧ c = c' := by simpa using he
  obtain ⟨b, off, hAe, hb, _, hcells⟩ := Kd.row_addr hrow (by omega)
  refine ⟨b, off, hAe, hb, fun i hi => ?_⟩
  obtain ⟨cs, ⟨hcs, _⟩, hcell⟩ := hcells i hi
  subst hcs
  exact C9.of hcell
theorem sl_len {w : World} {ok : Nat → Prop} {l : List Triple} {A : Option Addr} {c : Nat} (h : triK.sl.M w ok l [.slice A l.length c]) : l.length ≤ 140737488355328 := by
  obtain ⟨_, _, _, _, ⟨h, _⟩, _⟩ := h
  exact h
set_option maxHeartbeats 3200000 in
set_option maxRecDepth 100000 in
theorem long_calls (l : List Triple) (A : Option Addr) (c : Nat) (w : World) (HL : triK.sl.M w (fun k => k < w.heap.size) l [.slice A l.length c]) :
    Calls Tryz.prog 13 #[.slice A l.length c] w fun e w' => e = .returned (.bool (decide (9000 < total l))) ∧ Below w.heap.size w w' := by
  have HF := Lib.hid (row_fits HL)
  have HR := Lib.hid (row_cells HL)
  have h47 := sl_len HL
  clear HL
  go_enter Tryz.func13, Tryz.ntmps13
  go_wp2
  go_loopw [3, 4] (fun vn vi wr => ∃ k n : Nat, k ≤ l.length ∧ vi = .int .i64 k ∧ vn = .int .i64 n ∧ n ≤ 2251799813685248 ∧ Hid (n = total (l.take k)) ∧ Hid (Below w.heap.size w wr)) (fun _ vi _ => l.length - (intOf vi).toNat)
  case atStart => exact ⟨0, 0, by omega, rfl, rfl, by omega, Lib.hid rfl, Lib.hid (Below.refl _ _)⟩
  case round =>
    obtain ⟨k, n, hk, rfl, rfl, hn, HT, HW⟩ := hrel
    by_cases hlt : k < l.length
    · have hd : decide (k < l.length) = true := decide_eq_true hlt
      have ik : (k : Int) < (l.length : Int) := by omega
      by_cases hl : 9000 < n
      · have hd2 : decide (n ≤ 9000) = false := decide_eq_false (by omega)
        have hd3 : decide (9000 < n) = true := decide_eq_true hl
        have HV : Hid (decide (9000 < total l) = true) := Lib.hid (decide_eq_true (by have := total_le l k; rw [← HT.out] at this; omega))
        go_wp2
        go_ret
        exact ⟨by rw [HV.out]; rfl, HW.out⟩
      · have hd2 : decide (n ≤ 9000) = true := decide_eq_true (by omega)
        obtain ⟨b, off, rfl, hb, hcells⟩ := HR.out k hlt
        obtain ⟨z0, z1, z2, z3, z4, z5, z6, z7, z8⟩ := (hcells k hlt).below HW.out
        have HT2 := Lib.hid (total_take l k hlt)
        have hf := HF.out l[k] (List.getElem_mem hlt)
        clear hcells
        obtain ⟨t, ht⟩ : ∃ t, t = l[k] := ⟨_, rfl⟩
        rw [← ht] at z0 z1 z2 z3 z4 z5 z6 z7 z8 HT2 hf
        clear ht
        obtain ⟨⟨sk, sx, se⟩, ⟨pk, px, pe⟩, ⟨ok, ox, oe⟩⟩ := t
        obtain ⟨⟨_, a1, a2⟩, ⟨_, a3, a4⟩, ⟨_, a5, a6⟩⟩ := hf
        have HWt : Hid (wt ⟨⟨sk, sx, se⟩, ⟨pk, px, pe⟩, ⟨ok, ox, oe⟩⟩ = 3 + sx.length + se.length + px.length + pe.length + ox.length + oe.length) := Lib.hid rfl
        dsimp only at z0 z1 z2 z3 z4 z5 z6 z7 z8 a1 a2 a3 a4 a5 a6
        have y1 := mkS_size sx
        have y2 := mkS_size se
        have y3 := mkS_size px
        have y4 := mkS_size pe
        have y5 := mkS_size ox
        have y6 := mkS_size oe
        go_wp2_with fail
        go_quiet (fail)
        go_wp2
        go_roundw
        case rel => exact ⟨k + 1, n + (3 + sx.length + se.length + px.length + pe.length + ox.length + oe.length), by omega, by go_num, by go_num, by omega, Lib.hid (by rw [HT2.out, HT.out, HWt.out]), Lib.hid (bel_drewN HW.out _)⟩
        case measure => simp [intOf]; omega
    · have hd : decide (k < l.length) = false := decide_eq_false hlt
      obtain rfl : k = l.length := by omega
      have HV : Hid (decide (9000 < total l) = decide (9000 < n)) := Lib.hid (by rw [HT.out, List.take_length])
      go_wp2
      go_ret
      exact ⟨by rw [HV.out]; first | rfl | (congr 2; simp; omega) | simp, HW.out⟩
set_option maxHeartbeats 3200000 in
set_option maxRecDepth 100000 in
theorem may_calls (l : List Triple) (A : Option Addr) (c : Nat) (w : World) (he : Env w) (HL : triK.sl.M w (fun k => k < w.heap.size) l [.slice A l.length c]) (hs : total l ≤ 9000) :
    Calls Tryz.prog 14 #[.slice A l.length c] w fun e w' => e = .returned (.bool (l.all isTriple)) ∧ Below w.heap.size w w' := by
  have HF := Lib.hid (fits_of (row_fits HL) hs)
  have HR := Lib.hid (row_cells HL)
  have HE := Lib.hid he
  have h47 := sl_len HL
  clear HL he
  go_enter Tryz.func14, Tryz.ntmps14
  go_wp2
  go_loopw [3] (fun vi wr => ∃ k : Nat, k ≤ l.length ∧ vi = .int .i64 k ∧ Hid ((l.take k).all isTriple = true) ∧ Hid (Below w.heap.size w wr)) (fun vi _ => l.length - (intOf vi).toNat)
  case atStart => exact ⟨0, by omega, rfl, Lib.hid rfl, Lib.hid (Below.refl _ _)⟩
  case round =>
    obtain ⟨k, hk, rfl, HA, HW⟩ := hrel
    by_cases hlt : k < l.length
    · have hd : decide (k < l.length) = true := decide_eq_true hlt
      have ik : (k : Int) < (l.length : Int) := by omega
      obtain ⟨b, off, rfl, hb, hcells⟩ := HR.out k hlt
      obtain ⟨z0, z1, z2, z3, z4, z5, z6, z7, z8⟩ := (hcells k hlt).below HW.out
      have hf := HF.out l[k] (List.getElem_mem hlt)
      have HT : Hid ((l.take (k + 1)).all isTriple = ((l.take k).all isTriple && isTriple l[k])) := Lib.hid (by rw [List.take_succ_eq_append_getElem hlt, List.all_append]; simp)
      have HT2 : Hid (isTriple l[k] = false → l.all isTriple = false) := Lib.hid (fun h => by
        rw [← Bool.not_eq_true, List.all_eq_true]
        intro h2
        rw [h2 _ (List.getElem_mem hlt)] at h
        cases h)
      clear hcells
      obtain ⟨t, ht⟩ : ∃ t, t = l[k] := ⟨_, rfl⟩
      rw [← ht] at z0 z1 z2 z3 z4 z5 z6 z7 z8 HT HT2 hf
      clear ht
      have HI := Lib.hid (fun w he => Ref5.is5_calls t hf w he)
      obtain ⟨r, hr⟩ : ∃ r, r = isTriple t := ⟨_, rfl⟩
      rw [← hr] at HT HT2 HI
      clear hr hf
      obtain ⟨⟨sk, sx, se⟩, ⟨pk, px, pe⟩, ⟨ok, ox, oe⟩⟩ := t
      unfold Ref5.tripleV at HI
      dsimp only at z0 z1 z2 z3 z4 z5 z6 z7 z8 HI
      have HE1 := Lib.hid (HE.out.below HW.out)
      cases r
      · go_wp2_with fail
        refine (HI.out _ HE1.out).mono ?_
        rintro e w2 ⟨rfl, hb2⟩
        have HW2 := Lib.hid (bel_step HW.out hb2)
        clear hb2
        go_wp2
        go_ret
        exact ⟨by rw [HT2.out trivial]; rfl, HW2.out⟩
      · go_wp2_with fail
        refine (HI.out _ HE1.out).mono ?_
        rintro e w2 ⟨rfl, hb2⟩
        have HW2 := Lib.hid (bel_step HW.out hb2)
        clear hb2
        go_wp2
        go_roundw
        case rel => exact ⟨k + 1, by omega, by go_num, Lib.hid (by rw [HT.out, HA.out]; rfl), HW2⟩
        case measure => simp [intOf]; omega
    · have hd : decide (k < l.length) = false := decide_eq_false hlt
      obtain rfl : k = l.length := by omega
      have HV : Hid (l.all isTriple = true) := Lib.hid (by have := HA.out; rwa [List.take_length] at this)
      go_wp2
      go_ret
      exact ⟨by rw [HV.out]; rfl, HW.out⟩
end Go.Proofs.YtmcoloapiiakbaaGreatDoor.Long
