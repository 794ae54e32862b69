/-
  Texts of the claim, one behind the other: RefOf, RefID, HeldZ, RefOfW, PatK.
-/
import Derived.Test.YtnplommdgfgboaaGreatDoorL1
import Derived.OrdersHeld
import Derived.Deep.RegionHeld3
import Derived.StillTail
import Derived.Laws.IdiomArrays
import Derived.OpenShut
set_option linter.unusedVariables false
set_option linter.unusedSimpArgs false
namespace Go.Proofs.YtnplommdgfgboaaGreatDoor.RefOf
open Go.RowKit Go.Lib Go.Proofs.YtnplommdgfgboaaGreatDoor.B Go.Proofs.YtnplommdgfgboaaGreatDoor.Rd Go.Proofs.YtnplommdgfgboaaGreatDoor.TermPure Go.Proofs.YtnplommdgfgboaaGreatDoor.LinesPure Go.Proofs.YtnplommdgfgboaaGreatDoor.Tri Go.Proofs.YtnplommdgfgboaaGreatDoor.SortP Go.Proofs.YtnplommdgfgboaaGreatDoor.OrdG Go.Proofs.YtnplommdgfgboaaGreatDoor.TermW Go.Proofs.YtnplommdgfgboaaGreatDoor.Cmp Go.Proofs.YtnplommdgfgboaaGreatDoor.StoreW Go.Proofs.YtnplommdgfgboaaGreatDoor.PutE
/-- The reference's store, as its block is filled. -/
structure OS (w wr : World) (v0 v1 v2 v3 : Value) : Prop where
  bel : Below w.heap.size w wr
  lt : w.heap.size < wr.heap.size
  c0 : wr.cell? ⟨w.heap.size, 0, none⟩ = some v0
  c1 : wr.cell? ⟨w.heap.size, 1, none⟩ = some v1
  c2 : wr.cell? ⟨w.heap.size, 2, none⟩ = some v2
  c3 : wr.cell? ⟨w.heap.size, 3, none⟩ = some v3
  free : ∀ j, wr.frozen? ⟨w.heap.size, j, none⟩ = false
theorem OS.below {w wr w1 : World} {v0 v1 v2 v3 : Value} (h : OS w wr v0 v1 v2 v3) (hb : Below (w.heap.size + 1) wr w1) : OS w w1 v0 v1 v2 v3 := by
  have hc : ∀ o, w1.cell? ⟨w.heap.size, o, none⟩ = wr.cell? ⟨w.heap.size, o, none⟩ := fun o => hb.cell (p := ⟨w.heap.size, o, none⟩) (Nat.lt_succ_self _)
  exact ⟨h.bel.trans (hb.mono (Nat.le_succ _)), Nat.lt_of_lt_of_le h.lt hb.size, (hc 0).trans h.c0, (hc 1).trans h.c1, (hc 2).trans h.c2, (hc 3).trans h.c3, fun j => (hb.frozen (p := ⟨w.heap.size, j, none⟩) (Nat.lt_succ_self _)).trans (h.free j)⟩
theorem OS.set1 {w wr : World} {v0 v1 v2 v3 : Value} (h : OS w wr v0 v1 v2 v3) (v : Value) : OS w (wr.setCell ⟨w.heap.size, 1, none⟩ v) v0 v v2 v3 :=
  ⟨bel_set h.bel (Nat.le_refl _) _, by simpa using h.lt, (World.cell?_setCell_other _ _ _ _ (by simp)).trans h.c0, World.cell?_setCell_same _ _ _ h.c1, (World.cell?_setCell_other _ _ _ _ (by simp)).trans h.c2, (World.cell?_setCell_other _ _ _ _ (by simp)).trans h.c3, fun j => by rw [World.frozen?_setCell]; exact h.free j⟩
theorem OS.set2 {w wr : World} {v0 v1 v2 v3 : Value} (h : OS w wr v0 v1 v2 v3) (v : Value) : OS w (wr.setCell ⟨w.heap.size, 2, none⟩ v) v0 v1 v v3 :=
  ⟨bel_set h.bel (Nat.le_refl _) _, by simpa using h.lt, (World.cell?_setCell_other _ _ _ _ (by simp)).trans h.c0, (World.cell?_setCell_other _ _ _ _ (by simp)).trans h.c1, World.cell?_setCell_same _ _ _ h.c2, (World.cell?_setCell_other _ _ _ _ (by simp)).trans h.c3, fun j => by rw [World.frozen?_setCell]; exact h.free j⟩
theorem OS.set3 {w wr : World} {v0 v1 v2 v3 : Value} (h : OS w wr v0 v1 v2 v3) (v : Value) : OS w (wr.setCell ⟨w.heap.size, 3, none⟩ v) v0 v1 v2 v :=
  ⟨bel_set h.bel (Nat.le_refl _) _, by simpa using h.lt, (World.cell?_setCell_other _ _ _ _ (by simp)).trans h.c0, (World.cell?_setCell_other _ _ _ _ (by simp)).trans h.c1, (World.cell?_setCell_other _ _ _ _ (by simp)).trans h.c2, World.cell?_setCell_same _ _ _ h.c3, fun j => by rw [World.frozen?_setCell]; exact h.free j⟩
theorem OS.new (w : World) (v0 v1 v2 v3 : Value) : OS w (w.alloc (.cells #[v0, v1, v2, v3] 53)) v0 v1 v2 v3 := by
  have hc : ∀ {o : Nat} {u : Value}, #[v0, v1, v2, v3][o]? = some u → (w.alloc (.cells #[v0, v1, v2, v3] 53)).cell? ⟨w.heap.size, o, none⟩ = some u := fun {o u} hu => by
    rw [World.cell?, Kd.heap_new]
    exact hu
  refine ⟨bel_alloc (Below.refl _ _) _, by simp, hc rfl, hc rfl, hc rfl, hc rfl, fun j => ?_⟩
  unfold World.frozen?
  dsimp only
  rw [Kd.heap_new]
  rfl
/-- Not in the store's own block. -/
def NB (w : World) (k : Nat) : Prop := k ≠ w.heap.size
theorem nb_set {α : Type} {d : Kd α} {w wr : World} {o : Nat} {v : Value} {x : α} {cs : List Value} (h : d.M wr (NB w) x cs) : d.M (wr.setCell ⟨w.heap.size, o, none⟩ v) (NB w) x cs :=
  d.move (fun k hk _ => Below.heap_setCell _ _ _ _ hk) h
theorem nb_below {α : Type} {d : Kd α} {w wr w1 : World} {x : α} {cs : List Value} (h : d.M wr (NB w) x cs) (hb : Below wr.heap.size wr w1) : d.M w1 (NB w) x cs :=
  d.move (fun k _ hlt => hb.block k hlt) h
theorem nb_or {α : Type} {d : Kd α} {w wr W : World} {x : α} {cs : List Value} (hw : w.heap.size < wr.heap.size) (h : d.M W (fun k => NB w k ∨ wr.heap.size ≤ k) x cs) : d.M W (NB w) x cs :=
  d.mono (fun k hk _ => hk.elim id (fun h2 (e : k = w.heap.size) => by omega)) h
/-- .. and below a number of blocks. -/
def OB (w : World) (B k : Nat) : Prop := NB w k ∧ k < B
theorem ob_set {α : Type} {d : Kd α} {w wr : World} {B o : Nat} {v : Value} {x : α} {cs : List Value} (h : d.M wr (OB w B) x cs) : d.M (wr.setCell ⟨w.heap.size, o, none⟩ v) (OB w B) x cs :=
  d.move (fun k hk _ => Below.heap_setCell _ _ _ _ hk.1) h
theorem ob_below {α : Type} {d : Kd α} {w wr w1 : World} {B : Nat} {x : α} {cs : List Value} (h : d.M wr (OB w B) x cs) (hb : Below B wr w1) : d.M w1 (OB w B) x cs :=
  d.move (fun k hk _ => hb.block k hk.2) h
theorem ob_mono {α : Type} {d : Kd α} {w wr : World} {B B' : Nat} {x : α} {cs : List Value} (h : d.M wr (OB w B) x cs) (hB : B ≤ B') : d.M wr (OB w B') x cs :=
  d.mono (fun k hk _ => ⟨hk.1, Nat.lt_of_lt_of_le hk.2 hB⟩) h
theorem ob_of {α : Type} {d : Kd α} {w wr : World} {x : α} {cs : List Value} (h : d.M wr (NB w) x cs) : d.M wr (OB w wr.heap.size) x cs :=
  d.mono (fun k hk hlt => ⟨hk, hlt⟩) h
theorem ob_own {α : Type} {d : Kd α} {e : TypeId} {w wr : World} {B : Nat} {v : Value} {xs : List α} (hany : ∀ (w : World) (ok ok' : Nat → Prop) (x : α) (cs : List Value), d.M w ok x cs → d.M w ok' x cs) (h : d.own e wr B (fun _ => False) v xs) (hB : w.heap.size < B) : d.sl.M wr (OB w wr.heap.size) xs [v] :=
  ob_of (Kd.own_sl (ok' := NB w) h (fun k hk (e : k = w.heap.size) => by omega) (fun k hk => False.elim hk))
theorem one_str (W : World) (S1 : List UInt8) (h : S1.length ≤ 1000) : strK.sl.M (W.alloc (.cells #[.string (mkS S1)] 9)) (fun _ => True) [mkS S1] [.slice (some ⟨W.heap.size, 0, none⟩) 1 1] := by
  refine ⟨some ⟨W.heap.size, 0, none⟩, 1, rfl, Nat.le_refl _, ⟨by simp, by unfold maxLen; omega⟩, fun h => (by cases h), fun i x hx => ?_⟩
  match i with
  | 0 =>
    simp at hx
    subst hx
    refine ⟨_, [.string (mkS S1)], rfl, trivial, ⟨rfl, by show (mkS S1).size ≤ _; rw [mkS_size]; omega⟩, fun j u hu => ?_⟩
    rw [add_plain, World.cell?, Kd.heap_new]
    match j with
    | 0 => simp at hu; subst hu; rfl
    | j + 1 => simp at hu
  | i + 1 => simp at hx
theorem one_ids (W : World) (x : Ids) (h : FitsI x) : idsK.sl.M (W.alloc (.cells #[.int .i64 (x.a : Nat), .int .i64 (x.b : Nat), .int .i64 (x.c : Nat)] 40)) (fun _ => True) [x] [.slice (some ⟨W.heap.size, 0, none⟩) 1 1] := by
  refine ⟨some ⟨W.heap.size, 0, none⟩, 1, rfl, Nat.le_refl _, ⟨by simp, by unfold maxLen; omega⟩, fun h => (by cases h), fun i y hy => ?_⟩
  match i with
  | 0 =>
    simp at hy
    subst hy
    refine ⟨_, idsL x, rfl, trivial, ⟨rfl, h⟩, fun j u hu => ?_⟩
    rw [add_plain, World.cell?, Kd.heap_new]
    have hj : j < 3 := (List.getElem?_eq_some_iff.1 hu).1
    match j, hj with
    | 0, _ => cases hu; rfl
    | 1, _ => cases hu; rfl
    | 2, _ => cases hu; rfl
  | i + 1 => simp at hy
/-- The terms of the first i triples. -/
def ET (l : List Triple) (i : Nat) : List Term := (inTriples (l.take i)).foldl putL []
theorem ET_zero (l : List Triple) : ET l 0 = [] := by simp [ET, inTriples]
theorem ET_all (l : List Triple) : ET l l.length = termsT l := by
  unfold ET termsT
  rw [List.take_length]
  rfl
theorem ET_snoc (l : List Triple) (i : Nat) (h : i < l.length) : ET l (i + 1) = putL (putL (putL (ET l i) l[i].s) l[i].p) l[i].o := by
  unfold ET
  rw [← Made.inT_snoc l i h, List.foldl_append]
  rfl
theorem putL_mem (l : List Term) (t x : Term) : x ∈ putL l t ↔ x = t ∨ x ∈ l := putE_mem _ l t x
theorem putL_len : ∀ (l : List Term) (t : Term), (putL l t).length ≤ l.length + 1
  | [], t => by simp [putL, putE]
  | y :: l, t => by
    have ih := putL_len l t
    unfold putL at ih ⊢
    rw [putE]
    split
    · simp only [List.length_cons]; omega
    · split <;> simp
theorem ET_is {l : List Triple} (h : Valid l) : ∀ i, i ≤ l.length → ∀ x ∈ ET l i, is x = true
  | 0, _, x, hx => by rw [ET_zero] at hx; cases hx
  | i + 1, hi, x, hx => by
    rw [ET_snoc l i hi, putL_mem, putL_mem, putL_mem] at hx
    have ht := ParseP.isT_parts (h l[i] (List.getElem_mem _))
    rcases hx with rfl | rfl | rfl | hx
    · exact ht.2.2
    · exact ht.2.1
    · exact ht.1
    · exact ET_is h i (by omega) x hx
theorem ET_len (l : List Triple) : ∀ i, i ≤ l.length → (ET l i).length ≤ 3 * i
  | 0, _ => by rw [ET_zero]; simp
  | i + 1, hi => by
    rw [ET_snoc l i hi]
    have h1 := ET_len l i (by omega)
    have h2 := putL_len (ET l i) l[i].s
    have h3 := putL_len (putL (ET l i) l[i].s) l[i].p
    have h4 := putL_len (putL (putL (ET l i) l[i].s) l[i].p) l[i].o
    omega
theorem small_is {x : Term} (h : is x = true) : SmallM x := by
  have := ParseP.is_small h
  unfold SmallM
  omega
theorem fits_is {x : Term} (h : is x = true) : FitsW x := by
  have := ParseP.is_small h
  unfold FitsW
  omega
end Go.Proofs.YtnplommdgfgboaaGreatDoor.RefOf
set_option linter.unusedVariables false
set_option linter.unusedSimpArgs false
namespace Go.Proofs.YtnplommdgfgboaaGreatDoor.RefOf
open Go.RowKit Go.Lib Go.Proofs.YtnplommdgfgboaaGreatDoor.B Go.Proofs.YtnplommdgfgboaaGreatDoor.Rd Go.Proofs.YtnplommdgfgboaaGreatDoor.TermPure Go.Proofs.YtnplommdgfgboaaGreatDoor.LinesPure Go.Proofs.YtnplommdgfgboaaGreatDoor.Tri Go.Proofs.YtnplommdgfgboaaGreatDoor.SortP Go.Proofs.YtnplommdgfgboaaGreatDoor.OrdG Go.Proofs.YtnplommdgfgboaaGreatDoor.TermW Go.Proofs.YtnplommdgfgboaaGreatDoor.Cmp Go.Proofs.YtnplommdgfgboaaGreatDoor.StoreW Go.Proofs.YtnplommdgfgboaaGreatDoor.Search
theorem idxOf_le : ∀ (l : List Term) (t : Term) (i : Nat) (h : i < l.length), l[i] = t → l.idxOf t ≤ i
  | [], _, _, h, _ => by simp at h
  | x :: l, t, 0, _, he => by
    rw [List.getElem_cons_zero] at he
    rw [List.idxOf_cons, he]
    simp
  | x :: l, t, i + 1, h, he => by
    have ih := idxOf_le l t i (by simpa using h) (by rw [List.getElem_cons_succ] at he; exact he)
    rw [List.idxOf_cons]
    cases (x == t)
    · simp only [cond_false]; omega
    · simp only [cond_true]; omega
theorem idOf_first {l : List Term} {t : Term} {i : Nat} (h : i < l.length) (he : l[i] = t) (hne : ∀ j (hj : j < l.length), j < i → l[j] ≠ t) : idOf l t = i + 1 := by
  have hm : t ∈ l := by rw [← he]; exact List.getElem_mem h
  unfold idOf
  rw [if_pos hm]
  have h1 := List.idxOf_lt_length_of_mem hm
  have h2 : l[l.idxOf t] = t := List.getElem_idxOf h1
  have h3 : l.idxOf t ≤ i := idxOf_le l t i h he
  have h5 : ¬ l.idxOf t < i := fun h4 => hne _ h1 h4 h2
  omega
theorem idOf_none {l : List Term} {t : Term} (hne : ∀ j (hj : j < l.length), l[j] ≠ t) : idOf l t = 0 := by
  unfold idOf
  rw [if_neg]
  intro hm
  obtain ⟨j, hj, he⟩ := List.getElem_of_mem hm
  exact hne j hj he
set_option maxHeartbeats 6400000 in
set_option maxRecDepth 100000 in
theorem id11_calls (E : List Term) (t : Term) (g : Nat) (A : Option Addr) (c : Nat) (w : World) (hg : w.cell? ⟨g, 1, none⟩ = some (.slice A E.length c)) (HL : termK.sl.M w (fun k => k < w.heap.size) E [.slice A E.length c]) (hb : E.length ≤ 1000000) :
    Calls Tryz.prog 49 #[.pointer (some ⟨g, 0, none⟩), Ref5.termV t] w fun e w' => e = .returned (.int .i64 (idOf E t : Nat)) ∧ Below w.heap.size w w' := by
  have hb0 : Below w.heap.size w (w.alloc (.cells (termL t).toArray 24)) := bel_alloc (Below.refl _ _) _
  have hcy := C3.new w t
  obtain ⟨w0, hw0⟩ : ∃ w0, w0 = w.alloc (.cells (termL t).toArray 24) := ⟨_, rfl⟩
  rw [← hw0] at hb0 hcy
  have HWX : Hid (w.alloc (.cells #[.int .i64 t.kind, .string (mkS t.text), .string (mkS t.extra)] 24) = w0) := Lib.hid hw0.symm
  have HB0 := Lib.hid hb0
  have HG := Lib.hid (fun W (h : Below w.heap.size w W) => (h.cell (p := ⟨g, 1, none⟩) (cell_lt hg)).trans hg)
  have HRow := Lib.hid (fun hp => term_cells HL hp)
  have HCy := Lib.hid hcy
  have HF := Lib.hid (fun i h he hne => idOf_first (l := E) (t := t) (i := i) h he hne)
  have HN := Lib.hid (fun hne => idOf_none (l := E) (t := t) hne)
  obtain ⟨n, hn⟩ : ∃ n, n = idOf E t := ⟨_, rfl⟩
  rw [← hn] at HF HN
  rw [← hn]
  clear hn hb0 hcy hw0 hg HL
  unfold Ref5.termV
  go_enter Tryz.func49, Tryz.ntmps49
  go_upto_region 1 with fail
  rw [HWX.out]
  go_wp2
  go_loopw [5] (fun vi wr => ∃ i : Nat, vi = .int .i64 i ∧ i ≤ E.length ∧ Hid ((∀ j (hj : j < E.length), j < i → E[j] ≠ t) ∧ Below w0.heap.size w0 wr)) (fun vi _ => E.length - (intOf vi).toNat)
  case atStart => exact ⟨0, rfl, by omega, Lib.hid ⟨fun j hj h => by omega, Below.refl _ _⟩⟩
  case round =>
    obtain ⟨i, rfl, hi, HI⟩ := hrel
    have HBw := Lib.hid (bel_step HB0.out HI.out.2)
    have k1 := HG.out wr HBw.out
    have HBd := Lib.hid (fun q => bel_drewN HBw.out q)
    by_cases hlt : i < E.length
    · have hd : decide (i < E.length) = true := decide_eq_true hlt
      have ik : (i : Int) < (E.length : Int) := by omega
      obtain ⟨b, off, rfl, _, hbs, hcells⟩ := HRow.out (by omega)
      have hcx := (hcells i hlt).below HBw.out
      have hcy := HCy.out.below HI.out.2
      obtain ⟨x, hx⟩ : ∃ x, x = E[i] := ⟨_, rfl⟩
      rw [← hx] at hcx
      have HQ := Lib.hid (fun W => TriEq.run_eq_term x t W)
      have HOk : Hid (x = t → n = i + 1) := Lib.hid (fun h => HF.out i hlt (by rw [← hx]; exact h) HI.out.1)
      have HNo : Hid (x ≠ t → ∀ j (hj : j < E.length), j < i + 1 → E[j] ≠ t) := Lib.hid (fun h j hj hji => by
        by_cases e : j = i
        · subst e; rw [← hx]; exact h
        · exact HI.out.1 j hj (by omega))
      have HIb := Lib.hid (fun q => bel_drewN HI.out.2 q)
      clear hcells hx HI
      by_cases hxt : x = t
      · rw [decide_eq_true hxt] at HQ
        have HV := Lib.hid (HOk.out hxt)
        clear hxt HOk HNo
        obtain ⟨xk, xt, xe⟩ := x
        obtain ⟨yk, yt, ye⟩ := t
        obtain ⟨x0, x1, x2⟩ := hcx
        obtain ⟨y0, y1, y2⟩ := hcy
        simp only [Nat.zero_add] at y1 y2
        have hqq := HQ.out
        dsimp only at x0 x1 x2 y0 y1 y2 hqq
        go_upto_region 4 with fail
        go_quiet (fail)
        go_wp2
        go_ret
        exact ⟨by rw [HV.out]; first | rfl | (simp), HBd.out _⟩
      · rw [decide_eq_false hxt] at HQ
        have HV := Lib.hid (HNo.out hxt)
        clear hxt HOk HNo
        obtain ⟨xk, xt, xe⟩ := x
        obtain ⟨yk, yt, ye⟩ := t
        obtain ⟨x0, x1, x2⟩ := hcx
        obtain ⟨y0, y1, y2⟩ := hcy
        simp only [Nat.zero_add] at y1 y2
        have hqq := HQ.out
        dsimp only at x0 x1 x2 y0 y1 y2 hqq
        go_upto_region 4 with fail
        go_quiet (fail)
        go_wp2
        go_roundw
        case rel => exact ⟨i + 1, by go_num, by omega, Lib.hid ⟨HV.out, HIb.out _⟩⟩
        case measure => simp [intOf]; omega
    · have hd : decide (i < E.length) = false := decide_eq_false hlt
      have HV : Hid (n = 0) := Lib.hid (HN.out (fun j hj => HI.out.1 j hj (by omega)))
      clear HI
      go_wp2
      go_ret
      exact ⟨by rw [HV.out]; rfl, HBw.out⟩
end Go.Proofs.YtnplommdgfgboaaGreatDoor.RefOf
set_option linter.unusedVariables false
set_option linter.unusedSimpArgs false
namespace Go.Proofs.YtnplommdgfgboaaGreatDoor.HeldZ
open Go
section
variable {P : Program} {ops : Array Oper} {md : Region.Mode} {Q : Exit → Act → World → Prop} {S : World → Prop} {z : Nat}
/-- Whatever order is picked, and S holds behind every operation but the last. -/
def wpAnyZ (P : Program) (md : Region.Mode) (ops : Array Oper) (Q : Exit → Act → World → Prop) (S : World → Prop) (z : Nat) : Nat → Array Bool → Act → World → Prop
  | 0, listed, a, w => Region.ready md ops listed = [] ∧ Q .normal a w
  | fuel + 1, listed, a, w =>
    (Region.ready md ops listed = [] → Q .normal a w) ∧
    ∀ i ∈ Region.ready md ops listed, wpOp P ops Q i (fun a' w' => (i ≠ z → S w') ∧ wpAnyZ P md ops Q S z fuel (listed.setIfInBounds i true) a' w') a w
theorem any_of_z : ∀ (fuel : Nat) (listed : Array Bool) (a : Act) (w : World), wpAnyZ P md ops Q S z fuel listed a w → wpAny P md ops Q fuel listed a w
  | 0, _, _, _, h => h
  | fuel + 1, _, _, _, h => ⟨h.1, fun i hi => wpOp_mono (fun a' w' h' => any_of_z fuel _ a' w' h'.2) (h.2 i hi)⟩
theorem first {i : Nat} {oi : Oper} {v : Value} (hi : ops[i]? = some oi) (hsel : ∀ (j : Nat) (o : Oper) cs b, ops[j]? = some o → o.op ≠ .select cs b)
    (hQ : ∀ c a w, Q (.panic c) (a.put oi.dst v) w → Q (.panic c) a w) (hs : Region.sinkB md ops z = true) (hc : Region.chainB md ops z = true) (hn : z < ops.size) (hiz : i < z) :
    ∀ (fuel : Nat) (listed : Array Bool) (a : Act) (w : World), HeadInv md ops z listed →
      (∀ j oj, ops[j]? = some oj → j ≠ i → listed.getD j true = false → (∀ e ∈ oj.after, Region.binds md e = true → e.on ≠ i) → oi.apart ops oj = true) →
      i ∈ Region.ready md ops listed → YieldsIf P ops S oi v a → S w →
      wpAnyZ P md ops Q S z fuel (listed.setIfInBounds i true) (a.put oi.dst v) w → wpAnyZ P md ops Q S z (fuel + 1) listed a w := by
  intro fuel
  induction fuel with
  | zero =>
    intro listed a w _ _ hr hy hS H
    refine ⟨fun h => (by rw [h] at hr; cases hr), fun j hj => ?_⟩
    by_cases hji : j = i
    · subst hji; exact hy.wpOp hi hS ⟨fun _ => hS, H⟩
    · have := ready_mono hj hji
      rw [H.1] at this
      cases this
  | succ fuel ih =>
    intro listed a w inv hfree hr hy hS H
    refine ⟨fun h => (by rw [h] at hr; cases hr), fun j hj => ?_⟩
    by_cases hji : j = i
    · subst hji; exact hy.wpOp hi hS ⟨fun _ => hS, H⟩
    · have hun := (mem_ready.1 hr).1
      have hjz : j < z := Nat.lt_of_not_le fun h => tail_waits hs hc hn inv _ i rfl hiz hun j h hj
      have h1 : wpOp P ops Q j (fun a' w' => S w' ∧ wpAnyZ P md ops Q S z fuel ((listed.setIfInBounds i true).setIfInBounds j true) a' w') (a.put oi.dst v) w :=
        wpOp_mono (fun a' w' h => ⟨h.1 (by omega), h.2⟩) (H.2 j (ready_mono hj hji))
      obtain ⟨hjun, oj, hoj, hall⟩ := mem_ready.1 hj
      have hnot : ∀ e ∈ oj.after, Region.binds md e = true → e.on ≠ i := fun e he hb heq => by
        have h1 := hall e he hb
        have h0 := (mem_ready.1 hr).1
        rw [heq] at h1
        rcases Nat.lt_or_ge i listed.size with h' | h'
        · simp [h'] at h0 h1; rw [h0] at h1; cases h1
        · simp [Array.getElem?_eq_none h'] at h1
      have h2 := wpOp_putIf hoj (hfree j oj hoj hji hjun hnot) (fun cs b => hsel i oi cs b hi) (fun cs b => hsel j oj cs b hoj) hQ hy h1
      have hfree' : ∀ k ok, ops[k]? = some ok → k ≠ i → (listed.setIfInBounds j true).getD k true = false →
          (∀ e ∈ ok.after, Region.binds md e = true → e.on ≠ i) → oi.apart ops ok = true := fun k ok hk hki hun hno => by
        refine hfree k ok hk hki ?_ hno
        by_cases hjk : j = k
        · subst hjk; exact hjun
        · rw [getD_set_ne true hjk] at hun; exact hun
      refine wpOp_mono (fun a' w' h3 => ⟨fun _ => h3.2.1, ih (listed.setIfInBounds j true) a' w' (inv.set hj hjz) hfree' (ready_mono hr (Ne.symm hji)) h3.1 h3.2.1 ?_⟩) h2
      rw [Array.setIfInBounds_comm _ _ hji]
      exact h3.2.2
/-- Take number i first. -/
theorem take (i : Nat) {oi : Oper} {v : Value} {fuel : Nat} {listed : Array Bool} {a : Act} {w : World} (inv : HeadInv md ops z listed) (hi : ops[i]? = some oi) (hsk : Region.sinkB md ops z = true) (hc : Region.chainB md ops z = true) (hn : z < ops.size) (hiz : i < z)
    (hs : Region.noSelect ops = true) (hf : Region.free md ops listed i = true) (hr : (Region.ready md ops listed).contains i = true)
    (hQ : ∀ c a w, Q (.panic c) (a.put oi.dst v) w → Q (.panic c) a w) (hS : S w) (hy : YieldsIf P ops S oi v a)
    (h : HeadInv md ops z (listed.setIfInBounds i true) → wpAnyZ P md ops Q S z fuel (listed.setIfInBounds i true) (a.put oi.dst v) w) : wpAnyZ P md ops Q S z (fuel + 1) listed a w :=
  have hr' : i ∈ Region.ready md ops listed := by simpa using hr
  first hi (Region.noSelect_spec hs) hQ hsk hc hn hiz fuel listed a w inv (Region.free_spec hi hf) hr' hy hS (h (inv.set hr' hiz))
/-- One alone may come up. -/
theorem one (i : Nat) {o : Oper} {fuel : Nat} {listed : Array Bool} {a : Act} {w : World} (inv : HeadInv md ops z listed) (hr : Region.ready md ops listed = [i]) (hi : ops[i]? = some o) (hg : o.guard = none)
    (h : (i < z → HeadInv md ops z (listed.setIfInBounds i true)) → ∀ K : Act → World → Prop, (∀ a' w', (i ≠ z → S w') → wpAnyZ P md ops Q S z fuel (listed.setIfInBounds i true) a' w' → K a' w') → o.wp P a w K Q) : wpAnyZ P md ops Q S z (fuel + 1) listed a w := by
  have hmem : i ∈ Region.ready md ops listed := by rw [hr]; simp
  refine ⟨fun h0 => (by rw [hr] at h0; cases h0), fun j hj => ?_⟩
  rw [hr] at hj
  simp at hj
  subst hj
  unfold wpOp
  rw [hi]
  have hw : Region.wanted o (yielded ops a.tmps) = true := by simp [Region.wanted, hg]
  simp only [hw, if_true]
  exact .inl (h (fun hlt => inv.set hmem hlt) _ fun a' w' h1 h2 => ⟨h1, h2⟩)
/-- .. as a law wants it. -/
theorem oneL (i : Nat) {o : Oper} {fuel : Nat} {listed : Array Bool} {a : Act} {w : World} (inv : HeadInv md ops z listed) (hr : Region.ready md ops listed = [i]) (hi : ops[i]? = some o) (hg : o.guard = none)
    (h : (i < z → HeadInv md ops z (listed.setIfInBounds i true)) → ∀ K : Act → World → Prop, (∀ a' w', (i ≠ z → S w') → wpAnyZ P md ops Q S z fuel (listed.setIfInBounds i true) a' w' → K a' w') → if Region.wanted o (yielded ops a.tmps) = true then o.wp P a w K Q else True) : wpAnyZ P md ops Q S z (fuel + 1) listed a w :=
  one i inv hr hi hg fun h1 K h2 => by
    have h3 := h h1 K h2
    have hw : Region.wanted o (yielded ops a.tmps) = true := by simp [Region.wanted, hg]
    rwa [if_pos hw] at h3
theorem done {listed : Array Bool} {a : Act} {w : World} (hr : Region.ready md ops listed = []) (h : Q .normal a w) : ∀ fuel, wpAnyZ P md ops Q S z fuel listed a w
  | 0 => ⟨hr, h⟩
  | _ + 1 => ⟨fun _ => h, by rw [hr]; simp⟩
theorem region {id : Nat} {a : Act} {w : World} (S : World → Prop) (z n : Nat) (L : Array Bool) (hm : P.follows .mixedOrders = true) (hn : ops.size = n) (hL : Array.replicate n false = L)
    (h : HeadInv .any ops z L → wpAnyZ P .any ops Q S z n L a w.drew) : (Code.region id ops true).wp P Q a w := by
  subst hL hn
  refine wp_region_any hm (any_of_z _ _ _ _ (h ?_))
  exact ⟨by simp, fun j oj _ hl => (by rw [getD_replicate_false] at hl; cases hl), fun t _ ht => getD_in (by simpa using ht) (getD_replicate_false _ _)⟩
end
end Go.Proofs.YtnplommdgfgboaaGreatDoor.HeldZ
set_option linter.unusedVariables false
set_option linter.unusedSimpArgs false
namespace Go.Proofs.YtnplommdgfgboaaGreatDoor.RefOf
open Go.RowKit Go.Lib Go.Proofs.YtnplommdgfgboaaGreatDoor.B Go.Proofs.YtnplommdgfgboaaGreatDoor.Rd Go.Proofs.YtnplommdgfgboaaGreatDoor.TermPure Go.Proofs.YtnplommdgfgboaaGreatDoor.LinesPure Go.Proofs.YtnplommdgfgboaaGreatDoor.Tri Go.Proofs.YtnplommdgfgboaaGreatDoor.SortP Go.Proofs.YtnplommdgfgboaaGreatDoor.OrdG Go.Proofs.YtnplommdgfgboaaGreatDoor.TermW Go.Proofs.YtnplommdgfgboaaGreatDoor.Cmp Go.Proofs.YtnplommdgfgboaaGreatDoor.StoreW Go.Proofs.YtnplommdgfgboaaGreatDoor.PutE Go.Proofs.YtnplommdgfgboaaGreatDoor.Search Go.Proofs.YtnplommdgfgboaaGreatDoor.Long
/-- The reference's store. -/
structure RefAt (w : World) (ok : Nat → Prop) (g : Nat) (T : List Triple) : Prop where
  tri : ∃ A c, w.cell? ⟨g, 0, none⟩ = some (.slice A T.length c) ∧ triK.sl.M w ok T [.slice A T.length c]
  terms : ∃ A c, w.cell? ⟨g, 1, none⟩ = some (.slice A (termsT T).length c) ∧ termK.sl.M w ok (termsT T) [.slice A (termsT T).length c]
  shows : ∃ A c, w.cell? ⟨g, 2, none⟩ = some (.slice A (termsT T).length c) ∧ strK.sl.M w ok (FrontW.strs (StoreP.texts T)) [.slice A (termsT T).length c]
  ids : ∃ A c, w.cell? ⟨g, 3, none⟩ = some (.slice A T.length c) ∧ idsK.sl.M w ok (idsT T) [.slice A T.length c]
theorem strs_snoc (l : List (List UInt8)) (k : Nat) (h : k < l.length) : FrontW.strs (l.take k) ++ [mkS l[k]] = FrontW.strs (l.take (k + 1)) := by
  unfold FrontW.strs
  rw [List.take_succ_eq_append_getElem h, List.map_append]
  rfl
set_option maxHeartbeats 12800000 in
set_option maxRecDepth 100000 in
theorem of_calls (l : List Triple) (hv : Valid l) (hl : l.length ≤ 100) (A : Option Addr) (c : Nat) (w : World) (HL : triK.sl.M w (fun k => k < w.heap.size) l [.slice A l.length c]) :
    Calls Tryz.prog 20 #[.slice A l.length c] w fun e w' => (∃ g, e = .returned (.pointer (some ⟨g, 0, none⟩)) ∧ RefAt w' (fun _ => True) g l) ∧ Below w.heap.size w w' := by
  have HRow := Lib.hid (fun k hk => row_cells HL k hk)
  have HM := Lib.hid HL
  have HV := Lib.hid hv
  have HOS0 := Lib.hid (OS.new w (.slice A l.length c) (.slice none 0 0) (.slice none 0 0) (.slice none 0 0))
  have HE0 : Hid (termK.sl.M (w.alloc (.cells #[.slice A l.length c, .slice none 0 0, .slice none 0 0, .slice none 0 0] 53)) (NB w) [] [.slice none 0 0]) := Lib.hid ⟨none, 0, rfl, Nat.le_refl _, ⟨Nat.zero_le _, Nat.zero_le _⟩, fun _ => rfl, Kd.row_nil _ _ _ _⟩
  have hl100 : l.length ≤ 100 := hl
  clear HL hv
  go_enter Tryz.func20, Tryz.ntmps20
  go_wp2
  go_loopw [4] (fun vi wr => ∃ (i cE : Nat) (AE : Option Addr) (E : List Term), vi = .int .i64 i ∧ i ≤ l.length ∧ Hid (OS w wr (.slice A l.length c) (.slice AE E.length cE) (.slice none 0 0) (.slice none 0 0) ∧ termK.sl.M wr (NB w) E [.slice AE E.length cE] ∧ E = ET l i)) (fun vi _ => l.length - (intOf vi).toNat)
  case atStart => exact ⟨0, 0, none, [], rfl, by omega, Lib.hid ⟨HOS0.out, HE0.out, (ET_zero l).symm⟩⟩
  case round =>
    obtain ⟨i, cE, AE, E, rfl, hi, HI⟩ := hrel
    clear HOS0 HE0
    by_cases hlt : i < l.length
    · have hd : decide (i < l.length) = true := decide_eq_true hlt
      have ik : (i : Int) < (l.length : Int) := by omega
      obtain ⟨b, off, rfl, hbs, hcells⟩ := HRow.out i hlt
      obtain ⟨t, ht⟩ : ∃ t, t = l[i] := ⟨_, rfl⟩
      have hcx := (hcells i hlt).below HI.out.1.bel
      rw [← ht] at hcx
      have hEis := ET_is HV.out i hi
      have hElen := ET_len l i hi
      have hsn := ET_snoc l i hlt
      rw [← HI.out.2.2] at hEis hElen hsn
      rw [← ht] at hsn
      have htv := ParseP.isT_parts (HV.out t (by rw [ht]; exact List.getElem_mem hlt))
      have HSE := Lib.hid hsn
      obtain ⟨E1, hE1⟩ : ∃ E1, E1 = putL E t.s := ⟨_, rfl⟩
      obtain ⟨E2, hE2⟩ : ∃ E2, E2 = putL E1 t.p := ⟨_, rfl⟩
      obtain ⟨E3, hE3⟩ : ∃ E3, E3 = putL E2 t.o := ⟨_, rfl⟩
      have is1 : ∀ x ∈ E1, is x = true := fun x hx => by rw [hE1, putL_mem] at hx; exact hx.elim (fun e => by rw [e]; exact htv.1) (hEis x)
      have is2 : ∀ x ∈ E2, is x = true := fun x hx => by rw [hE2, putL_mem] at hx; exact hx.elim (fun e => by rw [e]; exact htv.2.1) (is1 x)
      have n1 := putL_len E t.s
      have n2 := putL_len E1 t.p
      rw [← hE1] at n1
      rw [← hE2] at n2
      have HC1 : Hid (∀ W, Below wr.heap.size wr W → Calls Tryz.prog 48 #[.slice AE E.length cE, Ref5.termV t.s] W fun e w' => ∃ A' c', e = .returned (.slice A' E1.length c') ∧ termK.sl.M w' (NB w) E1 [.slice A' E1.length c'] ∧ Below W.heap.size W w') := Lib.hid (fun W hW => by
        have hm := nb_below HI.out.2.1 hW
        rw [hE1]
        refine (put_calls E t.s AE cE W (NB w) hm (Kd.M_bound hm) (fun x hx => small_is (hEis x hx)) (small_is htv.1) (fits_is htv.1) (by omega)).mono ?_
        rintro e w' ⟨A', c', he, hm', hb'⟩
        exact ⟨A', c', he, nb_or (Nat.lt_of_lt_of_le HI.out.1.lt hW.size) hm', hb'⟩)
      have HC2 : Hid (∀ W A1 c1, w.heap.size < W.heap.size → termK.sl.M W (NB w) E1 [.slice A1 E1.length c1] → Calls Tryz.prog 48 #[.slice A1 E1.length c1, Ref5.termV t.p] W fun e w' => ∃ A' c', e = .returned (.slice A' E2.length c') ∧ termK.sl.M w' (NB w) E2 [.slice A' E2.length c'] ∧ Below W.heap.size W w') := Lib.hid (fun W A1 c1 hz hm => by
        rw [hE2]
        refine (put_calls E1 t.p A1 c1 W (NB w) hm (Kd.M_bound hm) (fun x hx => small_is (is1 x hx)) (small_is htv.2.1) (fits_is htv.2.1) (by omega)).mono ?_
        rintro e w' ⟨A', c', he, hm', hb'⟩
        exact ⟨A', c', he, nb_or hz hm', hb'⟩)
      have HC3 : Hid (∀ W A1 c1, w.heap.size < W.heap.size → termK.sl.M W (NB w) E2 [.slice A1 E2.length c1] → Calls Tryz.prog 48 #[.slice A1 E2.length c1, Ref5.termV t.o] W fun e w' => ∃ A' c', e = .returned (.slice A' E3.length c') ∧ termK.sl.M w' (NB w) E3 [.slice A' E3.length c'] ∧ Below W.heap.size W w') := Lib.hid (fun W A1 c1 hz hm => by
        rw [hE3]
        refine (put_calls E2 t.o A1 c1 W (NB w) hm (Kd.M_bound hm) (fun x hx => small_is (is2 x hx)) (small_is htv.2.2) (fits_is htv.2.2) (by omega)).mono ?_
        rintro e w' ⟨A', c', he, hm', hb'⟩
        exact ⟨A', c', he, nb_or hz hm', hb'⟩)
      have HE3 : Hid (E3 = ET l (i + 1)) := Lib.hid (by rw [HSE.out, hE3, hE2, hE1])
      have HOS := Lib.hid HI.out.1
      have hglt := HOS.out.lt
      clear hcells ht hEis hElen hsn htv hE1 hE2 hE3 is1 is2 n1 n2 HSE HI
      obtain ⟨⟨sk, sx, se⟩, ⟨pk, px, pe⟩, ⟨ok', ox, oe⟩⟩ := t
      unfold Ref5.termV at HC1 HC2 HC3
      dsimp only at HC1 HC2 HC3
      have HK : Hid (∀ w', Below wr.heap.size wr w' → w'.cell? ⟨w.heap.size, 1, none⟩ = some (Value.slice AE E.length cE) ∧ w'.cell? ⟨b, off + i * 9, none⟩ = some (Value.int .i64 sk) ∧ w'.cell? ⟨b, off + i * 9 + 1, none⟩ = some (Value.string (mkS sx)) ∧ w'.cell? ⟨b, off + i * 9 + 2, none⟩ = some (Value.string (mkS se)) ∧ w'.cell? ⟨b, off + i * 9 + 3, none⟩ = some (Value.int .i64 pk) ∧ w'.cell? ⟨b, off + i * 9 + 4, none⟩ = some (Value.string (mkS px)) ∧ w'.cell? ⟨b, off + i * 9 + 5, none⟩ = some (Value.string (mkS pe)) ∧ w'.cell? ⟨b, off + i * 9 + 6, none⟩ = some (Value.int .i64 ok') ∧ w'.cell? ⟨b, off + i * 9 + 7, none⟩ = some (Value.string (mkS ox)) ∧ w'.cell? ⟨b, off + i * 9 + 8, none⟩ = some (Value.string (mkS oe))) := Lib.hid (fun w' hb => by
        obtain ⟨z0, z1, z2, z3, z4, z5, z6, z7, z8⟩ := hcx.below hb
        exact ⟨(hb.cell (p := ⟨w.heap.size, 1, none⟩) HOS.out.lt).trans HOS.out.c1, z0, z1, z2, z3, z4, z5, z6, z7, z8⟩)
      have hY := Below.refl wr.heap.size wr
      have k1 := HOS.out.c1
      obtain ⟨_, z0, z1, z2, z3, z4, z5, z6, z7, z8⟩ := HK.out _ hY
      clear hcx
      go_upto_region 5 with fail
      refine HeldZ.region (fun w' => w'.cell? ⟨w.heap.size, 1, none⟩ = some (Value.slice AE E.length cE) ∧ w'.cell? ⟨b, off + i * 9, none⟩ = some (Value.int .i64 sk) ∧ w'.cell? ⟨b, off + i * 9 + 1, none⟩ = some (Value.string (mkS sx)) ∧ w'.cell? ⟨b, off + i * 9 + 2, none⟩ = some (Value.string (mkS se)) ∧ w'.cell? ⟨b, off + i * 9 + 3, none⟩ = some (Value.int .i64 pk) ∧ w'.cell? ⟨b, off + i * 9 + 4, none⟩ = some (Value.string (mkS px)) ∧ w'.cell? ⟨b, off + i * 9 + 5, none⟩ = some (Value.string (mkS pe)) ∧ w'.cell? ⟨b, off + i * 9 + 6, none⟩ = some (Value.int .i64 ok') ∧ w'.cell? ⟨b, off + i * 9 + 7, none⟩ = some (Value.string (mkS ox)) ∧ w'.cell? ⟨b, off + i * 9 + 8, none⟩ = some (Value.string (mkS oe))) 25 26 #[false, false, false, false, false, false, false, false, false, false, false, false, false, false, false, false, false, false, false, false, false, false, false, false, false, false] (by kernel_rfl) rfl rfl ?_
      intro hinv
      have hS := HK.out wr.drew (bel_drew (Below.refl _ _))
      try dsimp only at hS
      refine HeldZ.take (v := ?vu1_0) 0 hinv rfl (by kernel_rfl) (by kernel_rfl) (by decide) (by decide) (by kernel_rfl) (by kernel_rfl) (by kernel_rfl) (fun _ _ _ h => h) hS (Or.inl ⟨by rfl, ?hyu1_0⟩) ?_
      case hyu1_0 => (intro w hSw; (try dsimp only at hSw); go_simp; try with_reducible rfl)
      clear hinv
      intro hinv
      try simp only [Act.put, List.setIfInBounds_toArray, List.set_cons_zero, List.set_cons_succ] at hinv ⊢
      refine HeldZ.take (v := ?vu2_1) 1 hinv rfl (by kernel_rfl) (by kernel_rfl) (by decide) (by decide) (by kernel_rfl) (by kernel_rfl) (by kernel_rfl) (fun _ _ _ h => h) hS (Or.inl ⟨by rfl, ?hyu2_1⟩) ?_
      case hyu2_1 => (intro w hSw; (try dsimp only at hSw); go_simp; try with_reducible rfl)
      clear hinv
      intro hinv
      try simp only [Act.put, List.setIfInBounds_toArray, List.set_cons_zero, List.set_cons_succ] at hinv ⊢
      refine HeldZ.take (v := ?vu3_2) 2 hinv rfl (by kernel_rfl) (by kernel_rfl) (by decide) (by decide) (by kernel_rfl) (by kernel_rfl) (by kernel_rfl) (fun _ _ _ h => h) hS (Or.inl ⟨by rfl, ?hyu3_2⟩) ?_
      case hyu3_2 => (intro w hSw; (try dsimp only at hSw); go_simp; try with_reducible rfl)
      clear hinv
      intro hinv
      try simp only [Act.put, List.setIfInBounds_toArray, List.set_cons_zero, List.set_cons_succ] at hinv ⊢
      refine HeldZ.take (v := ?vu4_3) 3 hinv rfl (by kernel_rfl) (by kernel_rfl) (by decide) (by decide) (by kernel_rfl) (by kernel_rfl) (by kernel_rfl) (fun _ _ _ h => h) hS (Or.inl ⟨by rfl, ?hyu4_3⟩) ?_
      case hyu4_3 => (intro w hSw; (try dsimp only at hSw); go_simp; try with_reducible rfl)
      clear hinv
      intro hinv
      try simp only [Act.put, List.setIfInBounds_toArray, List.set_cons_zero, List.set_cons_succ] at hinv ⊢
      refine HeldZ.take (v := ?vu5_4) 4 hinv rfl (by kernel_rfl) (by kernel_rfl) (by decide) (by decide) (by kernel_rfl) (by kernel_rfl) (by kernel_rfl) (fun _ _ _ h => h) hS (Or.inl ⟨by rfl, ?hyu5_4⟩) ?_
      case hyu5_4 => (intro w hSw; (try dsimp only at hSw); go_simp; try with_reducible rfl)
      clear hinv
      intro hinv
      try simp only [Act.put, List.setIfInBounds_toArray, List.set_cons_zero, List.set_cons_succ] at hinv ⊢
      refine HeldZ.take (v := ?vu6_5) 5 hinv rfl (by kernel_rfl) (by kernel_rfl) (by decide) (by decide) (by kernel_rfl) (by kernel_rfl) (by kernel_rfl) (fun _ _ _ h => h) hS (Or.inl ⟨by rfl, ?hyu6_5⟩) ?_
      case hyu6_5 => (intro w hSw; (try dsimp only at hSw); go_simp; try with_reducible rfl)
      clear hinv
      intro hinv
      try simp only [Act.put, List.setIfInBounds_toArray, List.set_cons_zero, List.set_cons_succ] at hinv ⊢
      refine HeldZ.take (v := ?vu7_6) 6 hinv rfl (by kernel_rfl) (by kernel_rfl) (by decide) (by decide) (by kernel_rfl) (by kernel_rfl) (by kernel_rfl) (fun _ _ _ h => h) hS (Or.inl ⟨by rfl, ?hyu7_6⟩) ?_
      case hyu7_6 => (intro w hSw; (try dsimp only at hSw); go_simp; try with_reducible rfl)
      clear hinv
      intro hinv
      try simp only [Act.put, List.setIfInBounds_toArray, List.set_cons_zero, List.set_cons_succ] at hinv ⊢
      refine HeldZ.take (v := ?vu8_7) 7 hinv rfl (by kernel_rfl) (by kernel_rfl) (by decide) (by decide) (by kernel_rfl) (by kernel_rfl) (by kernel_rfl) (fun _ _ _ h => h) hS (Or.inl ⟨by rfl, ?hyu8_7⟩) ?_
      case hyu8_7 => (intro w hSw; (try dsimp only at hSw); go_simp; try with_reducible rfl)
      clear hinv
      intro hinv
      try simp only [Act.put, List.setIfInBounds_toArray, List.set_cons_zero, List.set_cons_succ] at hinv ⊢
      refine HeldZ.take (v := ?vu9_8) 8 hinv rfl (by kernel_rfl) (by kernel_rfl) (by decide) (by decide) (by kernel_rfl) (by kernel_rfl) (by kernel_rfl) (fun _ _ _ h => h) hS (Or.inl ⟨by rfl, ?hyu9_8⟩) ?_
      case hyu9_8 => (intro w hSw; (try dsimp only at hSw); go_simp; try with_reducible rfl)
      clear hinv
      intro hinv
      try simp only [Act.put, List.setIfInBounds_toArray, List.set_cons_zero, List.set_cons_succ] at hinv ⊢
      refine HeldZ.take (v := ?vu10_9) 9 hinv rfl (by kernel_rfl) (by kernel_rfl) (by decide) (by decide) (by kernel_rfl) (by kernel_rfl) (by kernel_rfl) (fun _ _ _ h => h) hS (Or.inl ⟨by rfl, ?hyu10_9⟩) ?_
      case hyu10_9 => (intro w hSw; (try dsimp only at hSw); go_simp; try with_reducible rfl)
      clear hinv
      intro hinv
      try simp only [Act.put, List.setIfInBounds_toArray, List.set_cons_zero, List.set_cons_succ] at hinv ⊢
      refine HeldZ.take (v := ?vu11_11) 11 hinv rfl (by kernel_rfl) (by kernel_rfl) (by decide) (by decide) (by kernel_rfl) (by kernel_rfl) (by kernel_rfl) (fun _ _ _ h => h) hS (Or.inl ⟨by rfl, ?hyu11_11⟩) ?_
      case hyu11_11 => (intro w hSw; (try dsimp only at hSw); go_simp; try with_reducible rfl)
      clear hinv
      intro hinv
      try simp only [Act.put, List.setIfInBounds_toArray, List.set_cons_zero, List.set_cons_succ] at hinv ⊢
      refine HeldZ.take (v := ?vu12_12) 12 hinv rfl (by kernel_rfl) (by kernel_rfl) (by decide) (by decide) (by kernel_rfl) (by kernel_rfl) (by kernel_rfl) (fun _ _ _ h => h) hS (Or.inl ⟨by rfl, ?hyu12_12⟩) ?_
      case hyu12_12 => (intro w hSw; (try dsimp only at hSw); go_simp; try with_reducible rfl)
      clear hinv
      intro hinv
      try simp only [Act.put, List.setIfInBounds_toArray, List.set_cons_zero, List.set_cons_succ] at hinv ⊢
      refine HeldZ.take (v := ?vu13_13) 13 hinv rfl (by kernel_rfl) (by kernel_rfl) (by decide) (by decide) (by kernel_rfl) (by kernel_rfl) (by kernel_rfl) (fun _ _ _ h => h) hS (Or.inl ⟨by rfl, ?hyu13_13⟩) ?_
      case hyu13_13 => (intro w hSw; (try dsimp only at hSw); go_simp; try with_reducible rfl)
      clear hinv
      intro hinv
      try simp only [Act.put, List.setIfInBounds_toArray, List.set_cons_zero, List.set_cons_succ] at hinv ⊢
      refine HeldZ.take (v := ?vu14_14) 14 hinv rfl (by kernel_rfl) (by kernel_rfl) (by decide) (by decide) (by kernel_rfl) (by kernel_rfl) (by kernel_rfl) (fun _ _ _ h => h) hS (Or.inl ⟨by rfl, ?hyu14_14⟩) ?_
      case hyu14_14 => (intro w hSw; (try dsimp only at hSw); go_simp; try with_reducible rfl)
      clear hinv
      intro hinv
      try simp only [Act.put, List.setIfInBounds_toArray, List.set_cons_zero, List.set_cons_succ] at hinv ⊢
      refine HeldZ.take (v := ?vu15_15) 15 hinv rfl (by kernel_rfl) (by kernel_rfl) (by decide) (by decide) (by kernel_rfl) (by kernel_rfl) (by kernel_rfl) (fun _ _ _ h => h) hS (Or.inl ⟨by rfl, ?hyu15_15⟩) ?_
      case hyu15_15 => (intro w hSw; (try dsimp only at hSw); go_simp; try with_reducible rfl)
      clear hinv
      intro hinv
      try simp only [Act.put, List.setIfInBounds_toArray, List.set_cons_zero, List.set_cons_succ] at hinv ⊢
      refine HeldZ.take (v := ?vu16_17) 17 hinv rfl (by kernel_rfl) (by kernel_rfl) (by decide) (by decide) (by kernel_rfl) (by kernel_rfl) (by kernel_rfl) (fun _ _ _ h => h) hS (Or.inl ⟨by rfl, ?hyu16_17⟩) ?_
      case hyu16_17 => (intro w hSw; (try dsimp only at hSw); go_simp; try with_reducible rfl)
      clear hinv
      intro hinv
      try simp only [Act.put, List.setIfInBounds_toArray, List.set_cons_zero, List.set_cons_succ] at hinv ⊢
      refine HeldZ.take (v := ?vu17_18) 18 hinv rfl (by kernel_rfl) (by kernel_rfl) (by decide) (by decide) (by kernel_rfl) (by kernel_rfl) (by kernel_rfl) (fun _ _ _ h => h) hS (Or.inl ⟨by rfl, ?hyu17_18⟩) ?_
      case hyu17_18 => (intro w hSw; (try dsimp only at hSw); go_simp; try with_reducible rfl)
      clear hinv
      intro hinv
      try simp only [Act.put, List.setIfInBounds_toArray, List.set_cons_zero, List.set_cons_succ] at hinv ⊢
      refine HeldZ.take (v := ?vu18_19) 19 hinv rfl (by kernel_rfl) (by kernel_rfl) (by decide) (by decide) (by kernel_rfl) (by kernel_rfl) (by kernel_rfl) (fun _ _ _ h => h) hS (Or.inl ⟨by rfl, ?hyu18_19⟩) ?_
      case hyu18_19 => (intro w hSw; (try dsimp only at hSw); go_simp; try with_reducible rfl)
      clear hinv
      intro hinv
      try simp only [Act.put, List.setIfInBounds_toArray, List.set_cons_zero, List.set_cons_succ] at hinv ⊢
      refine HeldZ.take (v := ?vu19_20) 20 hinv rfl (by kernel_rfl) (by kernel_rfl) (by decide) (by decide) (by kernel_rfl) (by kernel_rfl) (by kernel_rfl) (fun _ _ _ h => h) hS (Or.inl ⟨by rfl, ?hyu19_20⟩) ?_
      case hyu19_20 => (intro w hSw; (try dsimp only at hSw); go_simp; try with_reducible rfl)
      clear hinv
      intro hinv
      try simp only [Act.put, List.setIfInBounds_toArray, List.set_cons_zero, List.set_cons_succ] at hinv ⊢
      refine HeldZ.take (v := ?vu20_21) 21 hinv rfl (by kernel_rfl) (by kernel_rfl) (by decide) (by decide) (by kernel_rfl) (by kernel_rfl) (by kernel_rfl) (fun _ _ _ h => h) hS (Or.inl ⟨by rfl, ?hyu20_21⟩) ?_
      case hyu20_21 => (intro w hSw; (try dsimp only at hSw); go_simp; try with_reducible rfl)
      clear hinv
      intro hinv
      try simp only [Act.put, List.setIfInBounds_toArray, List.set_cons_zero, List.set_cons_succ] at hinv ⊢
      refine HeldZ.one 10 hinv (by kernel_rfl) rfl rfl ?_
      clear hinv
      intro hinv K hK
      have hinv := hinv (by decide)
      go_simp
      refine (HC1.out _ ?hbl).mono ?_
      case hbl => repeat (first | exact Below.refl _ _ | assumption | refine bel_drew ?_ | refine bel_alloc ?_ _)
      rintro e w2 ⟨A1, c1, rfl, hM1, hb1⟩
      have HM1 := Lib.hid hM1
      have hB1 : Below wr.heap.size wr w2 := bel_step (by repeat (first | exact Below.refl _ _ | assumption | refine bel_drew ?_ | refine bel_alloc ?_ _)) hb1
      clear hM1
      refine hK _ _ (fun _ => HK.out _ hB1) ?_
      clear hK K
      try simp only [Act.put, List.setIfInBounds_toArray, List.set_cons_zero, List.set_cons_succ] at hinv ⊢
      refine HeldZ.one 16 hinv (by kernel_rfl) rfl rfl ?_
      clear hinv
      intro hinv K hK
      have hinv := hinv (by decide)
      go_simp
      refine (HC2.out _ A1 c1 ?hz ?hm).mono ?_
      case hz => have := hB1.size; omega
      case hm => exact HM1.out
      rintro e w3 ⟨A2, c2, rfl, hM2, hb2⟩
      have HM2 := Lib.hid hM2
      have hB2 : Below wr.heap.size wr w3 := bel_step (by repeat (first | exact Below.refl _ _ | assumption | refine bel_drew ?_ | refine bel_alloc ?_ _)) hb2
      clear hM2
      refine hK _ _ (fun _ => HK.out _ hB2) ?_
      clear hK K
      try simp only [Act.put, List.setIfInBounds_toArray, List.set_cons_zero, List.set_cons_succ] at hinv ⊢
      refine HeldZ.one 22 hinv (by kernel_rfl) rfl rfl ?_
      clear hinv
      intro hinv K hK
      have hinv := hinv (by decide)
      go_simp
      refine (HC3.out _ A2 c2 ?hz ?hm).mono ?_
      case hz => have := hB2.size; omega
      case hm => exact HM2.out
      rintro e w4 ⟨A3, c3, rfl, hM3, hb3⟩
      have HM3 := Lib.hid hM3
      have hB3 : Below wr.heap.size wr w4 := bel_step (by repeat (first | exact Below.refl _ _ | assumption | refine bel_drew ?_ | refine bel_alloc ?_ _)) hb3
      clear hM3
      refine hK _ _ (fun _ => HK.out _ hB3) ?_
      clear hK K
      try simp only [Act.put, List.setIfInBounds_toArray, List.set_cons_zero, List.set_cons_succ] at hinv ⊢
      clear hS
      have hS := HK.out _ hB3
      refine HeldZ.take (v := ?vu21_23) 23 hinv rfl (by kernel_rfl) (by kernel_rfl) (by decide) (by decide) (by kernel_rfl) (by kernel_rfl) (by kernel_rfl) (fun _ _ _ h => h) hS (Or.inl ⟨by rfl, ?hyu21_23⟩) ?_
      case hyu21_23 => (intro w hSw; (try dsimp only at hSw); go_simp; try with_reducible rfl)
      clear hinv
      intro hinv
      try simp only [Act.put, List.setIfInBounds_toArray, List.set_cons_zero, List.set_cons_succ] at hinv ⊢
      refine HeldZ.take (v := ?vu22_24) 24 hinv rfl (by kernel_rfl) (by kernel_rfl) (by decide) (by decide) (by kernel_rfl) (by kernel_rfl) (by kernel_rfl) (fun _ _ _ h => h) hS (Or.inl ⟨by rfl, ?hyu22_24⟩) ?_
      case hyu22_24 => (intro w hSw; (try dsimp only at hSw); go_simp; try with_reducible rfl)
      clear hinv
      intro hinv
      try simp only [Act.put, List.setIfInBounds_toArray, List.set_cons_zero, List.set_cons_succ] at hinv ⊢
      have HO4 := Lib.hid (HOS.out.below (hB3.mono hglt))
      have f1 := HO4.out.free 1
      have e1 := HO4.out.c1
      refine HeldZ.one 25 hinv (by kernel_rfl) rfl rfl ?_
      clear hinv
      intro _ K hK
      go_simp
      refine hK _ _ (fun h => absurd rfl h) ?_
      refine HeldZ.done (by kernel_rfl) ?_ _
      have HOSn := Lib.hid (HO4.out.set1 (.slice A3 E3.length c3))
      have HEn := Lib.hid (nb_set (w := w) (o := 1) (v := .slice A3 E3.length c3) HM3.out)
      clear hS hK K HM1 HM2 HM3 HO4 f1 e1 k1 hb1 hb2 hb3 hB1 hB2 hB3 z0 z1 z2 z3 z4 z5 z6 z7 z8 hY
      go_wp2
      go_roundw
      case rel => exact ⟨i + 1, c3, A3, E3, by go_num, by omega, Lib.hid ⟨HOSn.out, HEn.out, HE3.out⟩⟩
      case measure => simp [intOf]; omega
    · have hd : decide (i < l.length) = false := decide_eq_false hlt
      have HEt : Hid (E = termsT l) := Lib.hid (by
        have h : i = l.length := by omega
        rw [HI.out.2.2, h, ET_all])
      have hE300 : E.length ≤ 300 := by
        have h1 := ET_len l i hi
        rw [← HI.out.2.2] at h1
        omega
      have HEis := Lib.hid (ET_is HV.out i hi)
      rw [← HI.out.2.2] at HEis
      obtain ⟨B1, hB1⟩ : ∃ B1, B1 = wr.heap.size := ⟨_, rfl⟩
      have HBl : Hid (w.heap.size < B1) := Lib.hid (by rw [hB1]; exact HI.out.1.lt)
      have HOS1 := Lib.hid HI.out.1
      have HEM1 : Hid (termK.sl.M wr (OB w B1) E [.slice AE E.length cE]) := Lib.hid (by rw [hB1]; exact ob_of HI.out.2.1)
      have HB1s : Hid (B1 ≤ wr.heap.size) := Lib.hid (by rw [hB1]; exact Nat.le_refl _)
      have HX0 : Hid (strK.own 9 wr B1 Made.FF (.slice none 0 0) ([] : List ByteArray)) := Lib.hid (Kd.own_nil _ _ _ _ _)
      have HXe : Hid (([] : List ByteArray) = FrontW.strs ((E.map shown).take 0)) := Lib.hid rfl
      have k1 := HOS1.out.c1
      clear HI hlt hB1
      go_wp2
      go_loopw [5] (fun vi wr => ∃ (k c2 : Nat) (A2 : Option Addr) (X : List ByteArray), vi = .int .i64 k ∧ k ≤ E.length ∧ Hid (OS w wr (.slice A l.length c) (.slice AE E.length cE) (.slice A2 X.length c2) (.slice none 0 0) ∧ termK.sl.M wr (OB w B1) E [.slice AE E.length cE] ∧ strK.own 9 wr B1 Made.FF (.slice A2 X.length c2) X ∧ X = FrontW.strs ((E.map shown).take k) ∧ B1 ≤ wr.heap.size)) (fun vi _ => E.length - (intOf vi).toNat)
      case atStart => exact ⟨0, 0, none, [], rfl, by omega, Lib.hid ⟨HOS1.out, HEM1.out, HX0.out, HXe.out, HB1s.out⟩⟩
      case round =>
        obtain ⟨k, c2, A2, X, rfl, hk, HJ⟩ := hrel
        clear HOS1 HEM1 HX0 HXe k1 HB1s
        have k1 := HJ.out.1.c1
        by_cases hlt2 : k < E.length
        · have hd2 : decide (k < E.length) = true := decide_eq_true hlt2
          have ik2 : (k : Int) < (E.length : Int) := by omega
          obtain ⟨b2, off2, rfl, hob2, hbs2, hcells2⟩ := term_cells HJ.out.2.1 (by omega)
          have hcx := hcells2 k hlt2
          have hkm : k < (E.map shown).length := by rw [List.length_map]; exact hlt2
          have hsn := strs_snoc (E.map shown) k hkm
          rw [List.getElem_map, ← HJ.out.2.2.2.1] at hsn
          obtain ⟨x, hx⟩ : ∃ x, x = E[k] := ⟨_, rfl⟩
          rw [← hx] at hcx hsn
          have hxi := HEis.out x (by rw [hx]; exact List.getElem_mem hlt2)
          have hss := StoreP.shown_short hxi
          have HSh := Lib.hid (fun W => RefCmp.show4_calls x (small_is hxi) W)
          obtain ⟨S1, hS1⟩ : ∃ S1, S1 = shown x := ⟨_, rfl⟩
          rw [← hS1] at hsn hss HSh
          have HSn := Lib.hid hsn
          have hXl : X.length ≤ 300 := by rw [HJ.out.2.2.2.1, FrontW.strs_len, List.length_take, List.length_map]; omega
          have HOS := Lib.hid HJ.out.1
          have HEM := Lib.hid HJ.out.2.1
          have HXo := Lib.hid HJ.out.2.2.1
          have HBs := Lib.hid HJ.out.2.2.2.2
          have HOb : Hid (b2 ≠ w.heap.size ∧ b2 < B1) := Lib.hid ⟨hob2.1, hob2.2⟩
          clear hcells2 hx hxi hS1 hsn hkm HJ hob2
          obtain ⟨xk, xt, xe⟩ := x
          unfold Ref5.termV at HSh
          dsimp only at HSh
          have HK : Hid (∀ w', Below B1 wr w' → w'.cell? ⟨w.heap.size, 1, none⟩ = some (Value.slice (some ⟨b2, off2, none⟩) E.length cE) ∧ w'.cell? ⟨w.heap.size, 2, none⟩ = some (Value.slice A2 X.length c2) ∧ w'.cell? ⟨b2, off2 + k * 3, none⟩ = some (Value.int .i64 xk) ∧ w'.cell? ⟨b2, off2 + k * 3 + 1, none⟩ = some (Value.string (mkS xt)) ∧ w'.cell? ⟨b2, off2 + k * 3 + 2, none⟩ = some (Value.string (mkS xe))) := Lib.hid (fun w' hb => by
            obtain ⟨z0, z1, z2⟩ := hcx.moved (hb.block b2 HOb.out.2)
            exact ⟨(hb.cell (p := ⟨w.heap.size, 1, none⟩) HBl.out).trans HOS.out.c1, (hb.cell (p := ⟨w.heap.size, 2, none⟩) HBl.out).trans HOS.out.c2, z0, z1, z2⟩)
          clear hcx
          go_upto_region 9 with fail
          refine HeldZ.region (fun w' => w'.cell? ⟨w.heap.size, 1, none⟩ = some (Value.slice (some ⟨b2, off2, none⟩) E.length cE) ∧ w'.cell? ⟨w.heap.size, 2, none⟩ = some (Value.slice A2 X.length c2) ∧ w'.cell? ⟨b2, off2 + k * 3, none⟩ = some (Value.int .i64 xk) ∧ w'.cell? ⟨b2, off2 + k * 3 + 1, none⟩ = some (Value.string (mkS xt)) ∧ w'.cell? ⟨b2, off2 + k * 3 + 2, none⟩ = some (Value.string (mkS xe))) 17 18 #[false, false, false, false, false, false, false, false, false, false, false, false, false, false, false, false, false, false] (by kernel_rfl) rfl rfl ?_
          intro hinv
          have hS := HK.out wr.drew ((bel_drew (Below.refl wr.heap.size wr)).mono HBs.out)
          refine HeldZ.take (v := ?vu25_0) 0 hinv rfl (by kernel_rfl) (by kernel_rfl) (by decide) (by decide) (by kernel_rfl) (by kernel_rfl) (by kernel_rfl) (fun _ _ _ h => h) hS (Or.inl ⟨by rfl, ?hyu25_0⟩) ?_
          case hyu25_0 => (intro w hSw; (try dsimp only at hSw); go_simp; try with_reducible rfl)
          clear hinv
          intro hinv
          try simp only [Act.put, List.setIfInBounds_toArray, List.set_cons_zero, List.set_cons_succ] at hinv ⊢
          refine HeldZ.take (v := ?vu26_1) 1 hinv rfl (by kernel_rfl) (by kernel_rfl) (by decide) (by decide) (by kernel_rfl) (by kernel_rfl) (by kernel_rfl) (fun _ _ _ h => h) hS (Or.inl ⟨by rfl, ?hyu26_1⟩) ?_
          case hyu26_1 => (intro w hSw; (try dsimp only at hSw); go_simp; try with_reducible rfl)
          clear hinv
          intro hinv
          try simp only [Act.put, List.setIfInBounds_toArray, List.set_cons_zero, List.set_cons_succ] at hinv ⊢
          refine HeldZ.take (v := ?vu27_2) 2 hinv rfl (by kernel_rfl) (by kernel_rfl) (by decide) (by decide) (by kernel_rfl) (by kernel_rfl) (by kernel_rfl) (fun _ _ _ h => h) hS (Or.inl ⟨by rfl, ?hyu27_2⟩) ?_
          case hyu27_2 => (intro w hSw; (try dsimp only at hSw); go_simp; try with_reducible rfl)
          clear hinv
          intro hinv
          try simp only [Act.put, List.setIfInBounds_toArray, List.set_cons_zero, List.set_cons_succ] at hinv ⊢
          refine HeldZ.take (v := ?vu28_3) 3 hinv rfl (by kernel_rfl) (by kernel_rfl) (by decide) (by decide) (by kernel_rfl) (by kernel_rfl) (by kernel_rfl) (fun _ _ _ h => h) hS (Or.inl ⟨by rfl, ?hyu28_3⟩) ?_
          case hyu28_3 => (intro w hSw; (try dsimp only at hSw); go_simp; try with_reducible rfl)
          clear hinv
          intro hinv
          try simp only [Act.put, List.setIfInBounds_toArray, List.set_cons_zero, List.set_cons_succ] at hinv ⊢
          refine HeldZ.take (v := ?vu29_4) 4 hinv rfl (by kernel_rfl) (by kernel_rfl) (by decide) (by decide) (by kernel_rfl) (by kernel_rfl) (by kernel_rfl) (fun _ _ _ h => h) hS (Or.inl ⟨by rfl, ?hyu29_4⟩) ?_
          case hyu29_4 => (intro w hSw; (try dsimp only at hSw); go_simp; try with_reducible rfl)
          clear hinv
          intro hinv
          try simp only [Act.put, List.setIfInBounds_toArray, List.set_cons_zero, List.set_cons_succ] at hinv ⊢
          refine HeldZ.take (v := ?vu30_5) 5 hinv rfl (by kernel_rfl) (by kernel_rfl) (by decide) (by decide) (by kernel_rfl) (by kernel_rfl) (by kernel_rfl) (fun _ _ _ h => h) hS (Or.inl ⟨by rfl, ?hyu30_5⟩) ?_
          case hyu30_5 => (intro w hSw; (try dsimp only at hSw); go_simp; try with_reducible rfl)
          clear hinv
          intro hinv
          try simp only [Act.put, List.setIfInBounds_toArray, List.set_cons_zero, List.set_cons_succ] at hinv ⊢
          refine HeldZ.take (v := ?vu31_6) 6 hinv rfl (by kernel_rfl) (by kernel_rfl) (by decide) (by decide) (by kernel_rfl) (by kernel_rfl) (by kernel_rfl) (fun _ _ _ h => h) hS (Or.inl ⟨by rfl, ?hyu31_6⟩) ?_
          case hyu31_6 => (intro w hSw; (try dsimp only at hSw); go_simp; try with_reducible rfl)
          clear hinv
          intro hinv
          try simp only [Act.put, List.setIfInBounds_toArray, List.set_cons_zero, List.set_cons_succ] at hinv ⊢
          refine HeldZ.take (v := ?vu32_7) 7 hinv rfl (by kernel_rfl) (by kernel_rfl) (by decide) (by decide) (by kernel_rfl) (by kernel_rfl) (by kernel_rfl) (fun _ _ _ h => h) hS (Or.inl ⟨by rfl, ?hyu32_7⟩) ?_
          case hyu32_7 => (intro w hSw; (try dsimp only at hSw); go_simp; try with_reducible rfl)
          clear hinv
          intro hinv
          try simp only [Act.put, List.setIfInBounds_toArray, List.set_cons_zero, List.set_cons_succ] at hinv ⊢
          refine HeldZ.take (v := ?vu33_8) 8 hinv rfl (by kernel_rfl) (by kernel_rfl) (by decide) (by decide) (by kernel_rfl) (by kernel_rfl) (by kernel_rfl) (fun _ _ _ h => h) hS (Or.inl ⟨by rfl, ?hyu33_8⟩) ?_
          case hyu33_8 => (intro w hSw; (try dsimp only at hSw); go_simp; try with_reducible rfl)
          clear hinv
          intro hinv
          try simp only [Act.put, List.setIfInBounds_toArray, List.set_cons_zero, List.set_cons_succ] at hinv ⊢
          refine HeldZ.take (v := ?vu34_9) 9 hinv rfl (by kernel_rfl) (by kernel_rfl) (by decide) (by decide) (by kernel_rfl) (by kernel_rfl) (by kernel_rfl) (fun _ _ _ h => h) hS (Or.inl ⟨by rfl, ?hyu34_9⟩) ?_
          case hyu34_9 => (intro w hSw; (try dsimp only at hSw); go_simp; try with_reducible rfl)
          clear hinv
          intro hinv
          try simp only [Act.put, List.setIfInBounds_toArray, List.set_cons_zero, List.set_cons_succ] at hinv ⊢
          refine HeldZ.take (v := ?vu35_10) 10 hinv rfl (by kernel_rfl) (by kernel_rfl) (by decide) (by decide) (by kernel_rfl) (by kernel_rfl) (by kernel_rfl) (fun _ _ _ h => h) hS (Or.inl ⟨by rfl, ?hyu35_10⟩) ?_
          case hyu35_10 => (intro w hSw; (try dsimp only at hSw); go_simp; try with_reducible rfl)
          clear hinv
          intro hinv
          try simp only [Act.put, List.setIfInBounds_toArray, List.set_cons_zero, List.set_cons_succ] at hinv ⊢
          refine HeldZ.take (v := ?vu36_11) 11 hinv rfl (by kernel_rfl) (by kernel_rfl) (by decide) (by decide) (by kernel_rfl) (by kernel_rfl) (by kernel_rfl) (fun _ _ _ h => h) hS (Or.inl ⟨by rfl, ?hyu36_11⟩) ?_
          case hyu36_11 => (intro w hSw; (try dsimp only at hSw); go_simp; try with_reducible rfl)
          clear hinv
          intro hinv
          try simp only [Act.put, List.setIfInBounds_toArray, List.set_cons_zero, List.set_cons_succ] at hinv ⊢
          refine HeldZ.one 12 hinv (by kernel_rfl) rfl rfl ?_
          clear hinv
          intro hinv K hK
          have hinv := hinv (by decide)
          go_simp
          refine (HSh.out _).mono ?_
          rintro e w2 ⟨rfl, hb2⟩
          have hB2 : Below wr.heap.size wr w2 := bel_step (bel_drew (Below.refl _ _)) hb2
          have hB21 : Below B1 wr w2 := hB2.mono HBs.out
          refine hK _ _ (fun _ => HK.out _ hB21) ?_
          clear hK K
          try simp only [Act.put, List.setIfInBounds_toArray, List.set_cons_zero, List.set_cons_succ] at hinv ⊢
          refine HeldZ.one 13 hinv (by kernel_rfl) rfl rfl ?_
          clear hinv
          intro hinv K hK
          have hinv := hinv (by decide)
          go_simp
          refine hK _ _ (fun _ => HK.out _ ((bel_alloc hB2 _).mono HBs.out)) ?_
          clear hK K
          try simp only [Act.put, List.setIfInBounds_toArray, List.set_cons_zero, List.set_cons_succ] at hinv ⊢
          have hz2 : B1 ≤ w2.heap.size := Nat.le_trans HBs.out hB2.size
          refine HeldZ.oneL 14 hinv (by kernel_rfl) rfl rfl ?_
          clear hinv
          intro hinv K hK
          have hinv := hinv (by decide)
          refine Kd.own_app_step strK (w0 := w2) B1 (by rfl) (.tmp 54) (.tmp 63) 51 9 Clones.zero_str 16 (by rfl) Tryz.underlying51 Clones.info_str rfl (by decide) (.slice A2 X.length c2) X [mkS S1] (some ⟨w2.heap.size, 0, none⟩) 1 Made.FF (by rfl) (by rfl) ?ho (.inr ⟨?hr, Clones.any_str⟩) ?hbb ?hs ?hl ?_
          case ho => exact Kd.own_alloc (Kd.own_below HXo.out hB2) _
          case hr => exact one_str w2 S1 (by omega)
          case hbb => exact (bel_alloc (Below.refl _ _) _).mono hz2
          case hs => simp; omega
          case hl => simp; omega
          intro v1 w3 ho3 hb3 hg3 hv3
          rw [HSn.out] at ho3
          obtain ⟨X3, hX3⟩ : ∃ X3, X3 = FrontW.strs ((E.map shown).take (k + 1)) := ⟨_, rfl⟩
          rw [← hX3] at ho3
          have HX3 := Lib.hid hX3
          have HO3 := Lib.hid ho3
          obtain ⟨A3, c3, rfl, _, _⟩ := Kd.own_slice ho3
          have hB31 : Below B1 wr w3 := hB21.trans hb3
          refine hK _ _ (fun _ => HK.out _ hB31) ?_
          clear hK K hX3 ho3 hg3 hv3
          try simp only [Act.put, List.setIfInBounds_toArray, List.set_cons_zero, List.set_cons_succ] at hinv ⊢
          clear hS
          have hS := HK.out _ hB31
          refine HeldZ.take (v := ?vu23_15) 15 hinv rfl (by kernel_rfl) (by kernel_rfl) (by decide) (by decide) (by kernel_rfl) (by kernel_rfl) (by kernel_rfl) (fun _ _ _ h => h) hS (Or.inl ⟨by rfl, ?hyu23_15⟩) ?_
          case hyu23_15 => (intro w hSw; (try dsimp only at hSw); go_simp; try with_reducible rfl)
          clear hinv
          intro hinv
          try simp only [Act.put, List.setIfInBounds_toArray, List.set_cons_zero, List.set_cons_succ] at hinv ⊢
          refine HeldZ.take (v := ?vu24_16) 16 hinv rfl (by kernel_rfl) (by kernel_rfl) (by decide) (by decide) (by kernel_rfl) (by kernel_rfl) (by kernel_rfl) (fun _ _ _ h => h) hS (Or.inl ⟨by rfl, ?hyu24_16⟩) ?_
          case hyu24_16 => (intro w hSw; (try dsimp only at hSw); go_simp; try with_reducible rfl)
          clear hinv
          intro hinv
          try simp only [Act.put, List.setIfInBounds_toArray, List.set_cons_zero, List.set_cons_succ] at hinv ⊢
          have HO4 := Lib.hid (HOS.out.below (hB31.mono HBl.out))
          have f2 := HO4.out.free 2
          have e2 := HO4.out.c2
          refine HeldZ.one 17 hinv (by kernel_rfl) rfl rfl ?_
          clear hinv
          intro _ K hK
          go_simp
          refine hK _ _ (fun h => absurd rfl h) ?_
          refine HeldZ.done (by kernel_rfl) ?_ _
          have HOSn := Lib.hid (HO4.out.set2 (.slice A3 X3.length c3))
          have HEn := Lib.hid (ob_set (o := 2) (v := .slice A3 X3.length c3) (ob_below HEM.out hB31))
          have HXn := Lib.hid (Made.own_set_other (g := w.heap.size) (o := 2) (u := .slice A3 X3.length c3) HO3.out HBl.out)
          have HBn : Hid (B1 ≤ (w3.setCell ⟨w.heap.size, 2, none⟩ (.slice A3 X3.length c3)).heap.size) := Lib.hid (by have := hB31.size; have := HBs.out; simp; omega)
          clear hS hK K HO4 f2 e2 hB31 hB21 hB2 hb2 hb3 k1 HOS HEM HXo HO3 hz2
          go_wp2
          go_roundw
          case rel => exact ⟨k + 1, c3, A3, X3, by go_num, by omega, Lib.hid ⟨HOSn.out, HEn.out, HXn.out, HX3.out, HBn.out⟩⟩
          case measure => simp [intOf]; omega
        · have hd2 : decide (k < E.length) = false := decide_eq_false hlt2
          have HXE : Hid (X = FrontW.strs (E.map shown)) := Lib.hid (by rw [HJ.out.2.2.2.1, List.take_of_length_le (by rw [List.length_map]; omega)])
          have HXl : Hid (X.length = E.length) := Lib.hid (by rw [HXE.out, FrontW.strs_len, List.length_map])
          obtain ⟨B2, hB2⟩ : ∃ B2, B2 = wr.heap.size := ⟨_, rfl⟩
          have HBl2 : Hid (w.heap.size < B2) := Lib.hid (by rw [hB2]; exact HJ.out.1.lt)
          have HOS2 := Lib.hid HJ.out.1
          have HEM2 : Hid (termK.sl.M wr (OB w B2) E [.slice AE E.length cE]) := Lib.hid (by rw [hB2]; exact ob_mono HJ.out.2.1 HJ.out.2.2.2.2)
          have HXM2 : Hid (strK.sl.M wr (OB w B2) X [.slice A2 X.length c2]) := Lib.hid (by rw [hB2]; exact ob_own Clones.any_str HJ.out.2.2.1 HBl.out)
          have HB2s : Hid (B2 ≤ wr.heap.size) := Lib.hid (by rw [hB2]; exact Nat.le_refl _)
          have HY0 : Hid (idsK.own 40 wr B2 Made.FF (.slice none 0 0) ([] : List Ids)) := Lib.hid (Kd.own_nil _ _ _ _ _)
          have HYe : Hid (([] : List Ids) = (idsT l).take 0) := Lib.hid (by simp)
          have HIl : Hid ((idsT l).length = l.length) := Lib.hid (StoreP.ids_len l)
          clear HJ hB2
          go_wp2
          go_loopw [6] (fun vi wr => ∃ (m c3 : Nat) (A3 : Option Addr) (Y : List Ids), vi = .int .i64 m ∧ m ≤ l.length ∧ Hid (OS w wr (.slice A l.length c) (.slice AE E.length cE) (.slice A2 X.length c2) (.slice A3 Y.length c3) ∧ termK.sl.M wr (OB w B2) E [.slice AE E.length cE] ∧ strK.sl.M wr (OB w B2) X [.slice A2 X.length c2] ∧ idsK.own 40 wr B2 Made.FF (.slice A3 Y.length c3) Y ∧ Y = (idsT l).take m ∧ B2 ≤ wr.heap.size)) (fun vi _ => l.length - (intOf vi).toNat)
          case atStart => exact ⟨0, 0, none, [], rfl, by omega, Lib.hid ⟨HOS2.out, HEM2.out, HXM2.out, HY0.out, HYe.out, HB2s.out⟩⟩
          case round =>
            obtain ⟨m, c3, A3, Y, rfl, hm, HJ⟩ := hrel
            clear HOS2 HEM2 HXM2 HY0 HYe HB2s k1
            by_cases hlt3 : m < l.length
            · have hd3 : decide (m < l.length) = true := decide_eq_true hlt3
              have ik3 : (m : Int) < (l.length : Int) := by omega
              obtain ⟨b, off, rfl, hbs, hcells⟩ := HRow.out m hlt3
              obtain ⟨t, ht⟩ : ∃ t, t = l[m] := ⟨_, rfl⟩
              have hcx := (hcells m hlt3).below HJ.out.1.bel
              rw [← ht] at hcx
              have hti : t ∈ l := by rw [ht]; exact List.getElem_mem hlt3
              have hsn := Made.idsT_snoc l m hlt3
              rw [← ht, ← HJ.out.2.2.2.2.1] at hsn
              have HFit : Hid (FitsI (idsOf (termsT l) t)) := Lib.hid (by
                obtain ⟨q1, q2, q3⟩ := Made.good_ids HV.out hl100 (idsOf (termsT l) t) (List.mem_map.2 ⟨t, hti, rfl⟩)
                unfold FitsI
                omega)
              have HIds : Hid (idsOf (termsT l) t = ⟨idOf E t.s, idOf E t.p, idOf E t.o⟩) := Lib.hid (by rw [HEt.out]; rfl)
              rw [HIds.out] at hsn HFit
              have HSn := Lib.hid hsn
              have hYl : Y.length ≤ 100 := by rw [HJ.out.2.2.2.2.1, List.length_take]; omega
              have HOS := Lib.hid HJ.out.1
              have HEM := Lib.hid HJ.out.2.1
              have HXM := Lib.hid HJ.out.2.2.1
              have HYo := Lib.hid HJ.out.2.2.2.1
              have HBs := Lib.hid HJ.out.2.2.2.2.2
              have HD := Lib.hid (fun W (hW : Below B2 wr W) y => id11_calls E y w.heap.size AE cE W ((hW.cell (p := ⟨w.heap.size, 1, none⟩) HBl2.out).trans HOS.out.c1) (Kd.M_bound (ob_below HEM.out hW)) (by omega))
              have HD1 := Lib.hid (fun W hW => HD.out W hW t.s)
              have HD2 := Lib.hid (fun W hW => HD.out W hW t.p)
              have HD3 := Lib.hid (fun W hW => HD.out W hW t.o)
              have hbw : b < w.heap.size := hbs
              clear hcells ht hti hsn HJ HD HIds
              generalize idOf E t.s = d1 at *
              generalize idOf E t.p = d2 at *
              generalize idOf E t.o = d3 at *
              obtain ⟨⟨sk, sx, se⟩, ⟨pk, px, pe⟩, ⟨ok', ox, oe⟩⟩ := t
              unfold Ref5.termV at HD1 HD2 HD3
              dsimp only at HD1 HD2 HD3
              have HK : Hid (∀ w', Below B2 wr w' → w'.cell? ⟨w.heap.size, 3, none⟩ = some (Value.slice A3 Y.length c3) ∧ w'.cell? ⟨b, off + m * 9, none⟩ = some (Value.int .i64 sk) ∧ w'.cell? ⟨b, off + m * 9 + 1, none⟩ = some (Value.string (mkS sx)) ∧ w'.cell? ⟨b, off + m * 9 + 2, none⟩ = some (Value.string (mkS se)) ∧ w'.cell? ⟨b, off + m * 9 + 3, none⟩ = some (Value.int .i64 pk) ∧ w'.cell? ⟨b, off + m * 9 + 4, none⟩ = some (Value.string (mkS px)) ∧ w'.cell? ⟨b, off + m * 9 + 5, none⟩ = some (Value.string (mkS pe)) ∧ w'.cell? ⟨b, off + m * 9 + 6, none⟩ = some (Value.int .i64 ok') ∧ w'.cell? ⟨b, off + m * 9 + 7, none⟩ = some (Value.string (mkS ox)) ∧ w'.cell? ⟨b, off + m * 9 + 8, none⟩ = some (Value.string (mkS oe))) := Lib.hid (fun w' hb => by
                obtain ⟨z0, z1, z2, z3, z4, z5, z6, z7, z8⟩ := hcx.moved (hb.block b (Nat.lt_trans hbw HBl2.out))
                exact ⟨(hb.cell (p := ⟨w.heap.size, 3, none⟩) HBl2.out).trans HOS.out.c3, z0, z1, z2, z3, z4, z5, z6, z7, z8⟩)
              clear hcx
              go_upto_region 13 with fail
              refine HeldZ.region (fun w' => w'.cell? ⟨w.heap.size, 3, none⟩ = some (Value.slice A3 Y.length c3) ∧ w'.cell? ⟨b, off + m * 9, none⟩ = some (Value.int .i64 sk) ∧ w'.cell? ⟨b, off + m * 9 + 1, none⟩ = some (Value.string (mkS sx)) ∧ w'.cell? ⟨b, off + m * 9 + 2, none⟩ = some (Value.string (mkS se)) ∧ w'.cell? ⟨b, off + m * 9 + 3, none⟩ = some (Value.int .i64 pk) ∧ w'.cell? ⟨b, off + m * 9 + 4, none⟩ = some (Value.string (mkS px)) ∧ w'.cell? ⟨b, off + m * 9 + 5, none⟩ = some (Value.string (mkS pe)) ∧ w'.cell? ⟨b, off + m * 9 + 6, none⟩ = some (Value.int .i64 ok') ∧ w'.cell? ⟨b, off + m * 9 + 7, none⟩ = some (Value.string (mkS ox)) ∧ w'.cell? ⟨b, off + m * 9 + 8, none⟩ = some (Value.string (mkS oe))) 31 32 #[false, false, false, false, false, false, false, false, false, false, false, false, false, false, false, false, false, false, false, false, false, false, false, false, false, false, false, false, false, false, false, false] (by kernel_rfl) rfl rfl ?_
              intro hinv
              have hB0 : Below B2 wr wr.drew := (bel_drew (Below.refl wr.heap.size wr)).mono HBs.out
              have hS := HK.out wr.drew hB0
              refine HeldZ.take (v := ?vu40_0) 0 hinv rfl (by kernel_rfl) (by kernel_rfl) (by decide) (by decide) (by kernel_rfl) (by kernel_rfl) (by kernel_rfl) (fun _ _ _ h => h) hS (Or.inl ⟨by rfl, ?hyu40_0⟩) ?_
              case hyu40_0 => (intro w hSw; (try dsimp only at hSw); go_simp; try with_reducible rfl)
              clear hinv
              intro hinv
              try simp only [Act.put, List.setIfInBounds_toArray, List.set_cons_zero, List.set_cons_succ] at hinv ⊢
              refine HeldZ.take (v := ?vu41_1) 1 hinv rfl (by kernel_rfl) (by kernel_rfl) (by decide) (by decide) (by kernel_rfl) (by kernel_rfl) (by kernel_rfl) (fun _ _ _ h => h) hS (Or.inl ⟨by rfl, ?hyu41_1⟩) ?_
              case hyu41_1 => (intro w hSw; (try dsimp only at hSw); go_simp; try with_reducible rfl)
              clear hinv
              intro hinv
              try simp only [Act.put, List.setIfInBounds_toArray, List.set_cons_zero, List.set_cons_succ] at hinv ⊢
              refine HeldZ.take (v := ?vu42_2) 2 hinv rfl (by kernel_rfl) (by kernel_rfl) (by decide) (by decide) (by kernel_rfl) (by kernel_rfl) (by kernel_rfl) (fun _ _ _ h => h) hS (Or.inl ⟨by rfl, ?hyu42_2⟩) ?_
              case hyu42_2 => (intro w hSw; (try dsimp only at hSw); go_simp; try with_reducible rfl)
              clear hinv
              intro hinv
              try simp only [Act.put, List.setIfInBounds_toArray, List.set_cons_zero, List.set_cons_succ] at hinv ⊢
              refine HeldZ.take (v := ?vu43_3) 3 hinv rfl (by kernel_rfl) (by kernel_rfl) (by decide) (by decide) (by kernel_rfl) (by kernel_rfl) (by kernel_rfl) (fun _ _ _ h => h) hS (Or.inl ⟨by rfl, ?hyu43_3⟩) ?_
              case hyu43_3 => (intro w hSw; (try dsimp only at hSw); go_simp; try with_reducible rfl)
              clear hinv
              intro hinv
              try simp only [Act.put, List.setIfInBounds_toArray, List.set_cons_zero, List.set_cons_succ] at hinv ⊢
              refine HeldZ.take (v := ?vu44_4) 4 hinv rfl (by kernel_rfl) (by kernel_rfl) (by decide) (by decide) (by kernel_rfl) (by kernel_rfl) (by kernel_rfl) (fun _ _ _ h => h) hS (Or.inl ⟨by rfl, ?hyu44_4⟩) ?_
              case hyu44_4 => (intro w hSw; (try dsimp only at hSw); go_simp; try with_reducible rfl)
              clear hinv
              intro hinv
              try simp only [Act.put, List.setIfInBounds_toArray, List.set_cons_zero, List.set_cons_succ] at hinv ⊢
              refine HeldZ.take (v := ?vu45_5) 5 hinv rfl (by kernel_rfl) (by kernel_rfl) (by decide) (by decide) (by kernel_rfl) (by kernel_rfl) (by kernel_rfl) (fun _ _ _ h => h) hS (Or.inl ⟨by rfl, ?hyu45_5⟩) ?_
              case hyu45_5 => (intro w hSw; (try dsimp only at hSw); go_simp; try with_reducible rfl)
              clear hinv
              intro hinv
              try simp only [Act.put, List.setIfInBounds_toArray, List.set_cons_zero, List.set_cons_succ] at hinv ⊢
              refine HeldZ.take (v := ?vu46_6) 6 hinv rfl (by kernel_rfl) (by kernel_rfl) (by decide) (by decide) (by kernel_rfl) (by kernel_rfl) (by kernel_rfl) (fun _ _ _ h => h) hS (Or.inl ⟨by rfl, ?hyu46_6⟩) ?_
              case hyu46_6 => (intro w hSw; (try dsimp only at hSw); go_simp; try with_reducible rfl)
              clear hinv
              intro hinv
              try simp only [Act.put, List.setIfInBounds_toArray, List.set_cons_zero, List.set_cons_succ] at hinv ⊢
              refine HeldZ.take (v := ?vu47_7) 7 hinv rfl (by kernel_rfl) (by kernel_rfl) (by decide) (by decide) (by kernel_rfl) (by kernel_rfl) (by kernel_rfl) (fun _ _ _ h => h) hS (Or.inl ⟨by rfl, ?hyu47_7⟩) ?_
              case hyu47_7 => (intro w hSw; (try dsimp only at hSw); go_simp; try with_reducible rfl)
              clear hinv
              intro hinv
              try simp only [Act.put, List.setIfInBounds_toArray, List.set_cons_zero, List.set_cons_succ] at hinv ⊢
              refine HeldZ.take (v := ?vu48_8) 8 hinv rfl (by kernel_rfl) (by kernel_rfl) (by decide) (by decide) (by kernel_rfl) (by kernel_rfl) (by kernel_rfl) (fun _ _ _ h => h) hS (Or.inl ⟨by rfl, ?hyu48_8⟩) ?_
              case hyu48_8 => (intro w hSw; (try dsimp only at hSw); go_simp; try with_reducible rfl)
              clear hinv
              intro hinv
              try simp only [Act.put, List.setIfInBounds_toArray, List.set_cons_zero, List.set_cons_succ] at hinv ⊢
              refine HeldZ.take (v := ?vu49_9) 9 hinv rfl (by kernel_rfl) (by kernel_rfl) (by decide) (by decide) (by kernel_rfl) (by kernel_rfl) (by kernel_rfl) (fun _ _ _ h => h) hS (Or.inl ⟨by rfl, ?hyu49_9⟩) ?_
              case hyu49_9 => (intro w hSw; (try dsimp only at hSw); go_simp; try with_reducible rfl)
              clear hinv
              intro hinv
              try simp only [Act.put, List.setIfInBounds_toArray, List.set_cons_zero, List.set_cons_succ] at hinv ⊢
              refine HeldZ.take (v := ?vu50_10) 10 hinv rfl (by kernel_rfl) (by kernel_rfl) (by decide) (by decide) (by kernel_rfl) (by kernel_rfl) (by kernel_rfl) (fun _ _ _ h => h) hS (Or.inl ⟨by rfl, ?hyu50_10⟩) ?_
              case hyu50_10 => (intro w hSw; (try dsimp only at hSw); go_simp; try with_reducible rfl)
              clear hinv
              intro hinv
              try simp only [Act.put, List.setIfInBounds_toArray, List.set_cons_zero, List.set_cons_succ] at hinv ⊢
              refine HeldZ.take (v := ?vu51_12) 12 hinv rfl (by kernel_rfl) (by kernel_rfl) (by decide) (by decide) (by kernel_rfl) (by kernel_rfl) (by kernel_rfl) (fun _ _ _ h => h) hS (Or.inl ⟨by rfl, ?hyu51_12⟩) ?_
              case hyu51_12 => (intro w hSw; (try dsimp only at hSw); go_simp; try with_reducible rfl)
              clear hinv
              intro hinv
              try simp only [Act.put, List.setIfInBounds_toArray, List.set_cons_zero, List.set_cons_succ] at hinv ⊢
              refine HeldZ.take (v := ?vu52_13) 13 hinv rfl (by kernel_rfl) (by kernel_rfl) (by decide) (by decide) (by kernel_rfl) (by kernel_rfl) (by kernel_rfl) (fun _ _ _ h => h) hS (Or.inl ⟨by rfl, ?hyu52_13⟩) ?_
              case hyu52_13 => (intro w hSw; (try dsimp only at hSw); go_simp; try with_reducible rfl)
              clear hinv
              intro hinv
              try simp only [Act.put, List.setIfInBounds_toArray, List.set_cons_zero, List.set_cons_succ] at hinv ⊢
              refine HeldZ.take (v := ?vu53_14) 14 hinv rfl (by kernel_rfl) (by kernel_rfl) (by decide) (by decide) (by kernel_rfl) (by kernel_rfl) (by kernel_rfl) (fun _ _ _ h => h) hS (Or.inl ⟨by rfl, ?hyu53_14⟩) ?_
              case hyu53_14 => (intro w hSw; (try dsimp only at hSw); go_simp; try with_reducible rfl)
              clear hinv
              intro hinv
              try simp only [Act.put, List.setIfInBounds_toArray, List.set_cons_zero, List.set_cons_succ] at hinv ⊢
              refine HeldZ.take (v := ?vu54_15) 15 hinv rfl (by kernel_rfl) (by kernel_rfl) (by decide) (by decide) (by kernel_rfl) (by kernel_rfl) (by kernel_rfl) (fun _ _ _ h => h) hS (Or.inl ⟨by rfl, ?hyu54_15⟩) ?_
              case hyu54_15 => (intro w hSw; (try dsimp only at hSw); go_simp; try with_reducible rfl)
              clear hinv
              intro hinv
              try simp only [Act.put, List.setIfInBounds_toArray, List.set_cons_zero, List.set_cons_succ] at hinv ⊢
              refine HeldZ.take (v := ?vu55_16) 16 hinv rfl (by kernel_rfl) (by kernel_rfl) (by decide) (by decide) (by kernel_rfl) (by kernel_rfl) (by kernel_rfl) (fun _ _ _ h => h) hS (Or.inl ⟨by rfl, ?hyu55_16⟩) ?_
              case hyu55_16 => (intro w hSw; (try dsimp only at hSw); go_simp; try with_reducible rfl)
              clear hinv
              intro hinv
              try simp only [Act.put, List.setIfInBounds_toArray, List.set_cons_zero, List.set_cons_succ] at hinv ⊢
              refine HeldZ.take (v := ?vu56_17) 17 hinv rfl (by kernel_rfl) (by kernel_rfl) (by decide) (by decide) (by kernel_rfl) (by kernel_rfl) (by kernel_rfl) (fun _ _ _ h => h) hS (Or.inl ⟨by rfl, ?hyu56_17⟩) ?_
              case hyu56_17 => (intro w hSw; (try dsimp only at hSw); go_simp; try with_reducible rfl)
              clear hinv
              intro hinv
              try simp only [Act.put, List.setIfInBounds_toArray, List.set_cons_zero, List.set_cons_succ] at hinv ⊢
              refine HeldZ.take (v := ?vu57_19) 19 hinv rfl (by kernel_rfl) (by kernel_rfl) (by decide) (by decide) (by kernel_rfl) (by kernel_rfl) (by kernel_rfl) (fun _ _ _ h => h) hS (Or.inl ⟨by rfl, ?hyu57_19⟩) ?_
              case hyu57_19 => (intro w hSw; (try dsimp only at hSw); go_simp; try with_reducible rfl)
              clear hinv
              intro hinv
              try simp only [Act.put, List.setIfInBounds_toArray, List.set_cons_zero, List.set_cons_succ] at hinv ⊢
              refine HeldZ.take (v := ?vu58_20) 20 hinv rfl (by kernel_rfl) (by kernel_rfl) (by decide) (by decide) (by kernel_rfl) (by kernel_rfl) (by kernel_rfl) (fun _ _ _ h => h) hS (Or.inl ⟨by rfl, ?hyu58_20⟩) ?_
              case hyu58_20 => (intro w hSw; (try dsimp only at hSw); go_simp; try with_reducible rfl)
              clear hinv
              intro hinv
              try simp only [Act.put, List.setIfInBounds_toArray, List.set_cons_zero, List.set_cons_succ] at hinv ⊢
              refine HeldZ.take (v := ?vu59_21) 21 hinv rfl (by kernel_rfl) (by kernel_rfl) (by decide) (by decide) (by kernel_rfl) (by kernel_rfl) (by kernel_rfl) (fun _ _ _ h => h) hS (Or.inl ⟨by rfl, ?hyu59_21⟩) ?_
              case hyu59_21 => (intro w hSw; (try dsimp only at hSw); go_simp; try with_reducible rfl)
              clear hinv
              intro hinv
              try simp only [Act.put, List.setIfInBounds_toArray, List.set_cons_zero, List.set_cons_succ] at hinv ⊢
              refine HeldZ.take (v := ?vu60_22) 22 hinv rfl (by kernel_rfl) (by kernel_rfl) (by decide) (by decide) (by kernel_rfl) (by kernel_rfl) (by kernel_rfl) (fun _ _ _ h => h) hS (Or.inl ⟨by rfl, ?hyu60_22⟩) ?_
              case hyu60_22 => (intro w hSw; (try dsimp only at hSw); go_simp; try with_reducible rfl)
              clear hinv
              intro hinv
              try simp only [Act.put, List.setIfInBounds_toArray, List.set_cons_zero, List.set_cons_succ] at hinv ⊢
              refine HeldZ.take (v := ?vu61_23) 23 hinv rfl (by kernel_rfl) (by kernel_rfl) (by decide) (by decide) (by kernel_rfl) (by kernel_rfl) (by kernel_rfl) (fun _ _ _ h => h) hS (Or.inl ⟨by rfl, ?hyu61_23⟩) ?_
              case hyu61_23 => (intro w hSw; (try dsimp only at hSw); go_simp; try with_reducible rfl)
              clear hinv
              intro hinv
              try simp only [Act.put, List.setIfInBounds_toArray, List.set_cons_zero, List.set_cons_succ] at hinv ⊢
              refine HeldZ.take (v := ?vu62_24) 24 hinv rfl (by kernel_rfl) (by kernel_rfl) (by decide) (by decide) (by kernel_rfl) (by kernel_rfl) (by kernel_rfl) (fun _ _ _ h => h) hS (Or.inl ⟨by rfl, ?hyu62_24⟩) ?_
              case hyu62_24 => (intro w hSw; (try dsimp only at hSw); go_simp; try with_reducible rfl)
              clear hinv
              intro hinv
              try simp only [Act.put, List.setIfInBounds_toArray, List.set_cons_zero, List.set_cons_succ] at hinv ⊢
              refine HeldZ.one 11 hinv (by kernel_rfl) rfl rfl ?_
              clear hinv
              intro hinv K hK
              have hinv := hinv (by decide)
              go_simp
              refine (HD1.out _ hB0).mono ?_
              rintro e w2 ⟨rfl, hbc1⟩
              have hBw2 : Below wr.heap.size wr w2 := bel_step (bel_drew (Below.refl _ _)) hbc1
              have hB2 : Below B2 wr w2 := hBw2.mono HBs.out
              refine hK _ _ (fun _ => HK.out _ hB2) ?_
              clear hK K
              try simp only [Act.put, List.setIfInBounds_toArray, List.set_cons_zero, List.set_cons_succ] at hinv ⊢
              refine HeldZ.one 18 hinv (by kernel_rfl) rfl rfl ?_
              clear hinv
              intro hinv K hK
              have hinv := hinv (by decide)
              go_simp
              refine (HD2.out _ hB2).mono ?_
              rintro e w3 ⟨rfl, hbc2⟩
              have hBw3 : Below wr.heap.size wr w3 := bel_step hBw2 hbc2
              have hB3 : Below B2 wr w3 := hBw3.mono HBs.out
              refine hK _ _ (fun _ => HK.out _ hB3) ?_
              clear hK K
              try simp only [Act.put, List.setIfInBounds_toArray, List.set_cons_zero, List.set_cons_succ] at hinv ⊢
              refine HeldZ.one 25 hinv (by kernel_rfl) rfl rfl ?_
              clear hinv
              intro hinv K hK
              have hinv := hinv (by decide)
              go_simp
              refine (HD3.out _ hB3).mono ?_
              rintro e w4 ⟨rfl, hbc3⟩
              have hBw4 : Below wr.heap.size wr w4 := bel_step hBw3 hbc3
              have hB4 : Below B2 wr w4 := hBw4.mono HBs.out
              refine hK _ _ (fun _ => HK.out _ hB4) ?_
              clear hK K
              try simp only [Act.put, List.setIfInBounds_toArray, List.set_cons_zero, List.set_cons_succ] at hinv ⊢
              clear hS
              have hS := HK.out _ hB4
              refine HeldZ.take (v := ?vu37_26) 26 hinv rfl (by kernel_rfl) (by kernel_rfl) (by decide) (by decide) (by kernel_rfl) (by kernel_rfl) (by kernel_rfl) (fun _ _ _ h => h) hS (Or.inl ⟨by rfl, ?hyu37_26⟩) ?_
              case hyu37_26 => (intro w hSw; (try dsimp only at hSw); go_simp; try with_reducible rfl)
              clear hinv
              intro hinv
              try simp only [Act.put, List.setIfInBounds_toArray, List.set_cons_zero, List.set_cons_succ] at hinv ⊢
              refine HeldZ.one 27 hinv (by kernel_rfl) rfl rfl ?_
              clear hinv
              intro hinv K hK
              have hinv := hinv (by decide)
              go_simp
              have hz4 : B2 ≤ w4.heap.size := Nat.le_trans HBs.out hB4.size
              refine hK _ _ (fun _ => HK.out _ (hB4.trans ((bel_alloc (Below.refl _ _) _).mono hz4))) ?_
              clear hK K
              try simp only [Act.put, List.setIfInBounds_toArray, List.set_cons_zero, List.set_cons_succ] at hinv ⊢
              refine HeldZ.oneL 28 hinv (by kernel_rfl) rfl rfl ?_
              clear hinv
              intro hinv K hK
              have hinv := hinv (by decide)
              refine Kd.own_app_step idsK (w0 := w4) B2 (by rfl) (.tmp 77) (.tmp 100) 48 40 Clones.zero_ids 24 (by rfl) Tryz.underlying48 Clones.info_ids rfl (by decide) (.slice A3 Y.length c3) Y [⟨d1, d2, d3⟩] (some ⟨w4.heap.size, 0, none⟩) 1 Made.FF (by rfl) (by rfl) ?ho (.inr ⟨?hr, Clones.any_ids⟩) ?hbb ?hs ?hl ?_
              case ho => exact Kd.own_alloc (Kd.own_below HYo.out hBw4) _
              case hr => exact one_ids w4 ⟨d1, d2, d3⟩ HFit.out
              case hbb => exact (bel_alloc (Below.refl _ _) _).mono hz4
              case hs => simp; omega
              case hl => simp; omega
              intro v1 w5 ho3 hb3 hg3 hv3
              rw [HSn.out] at ho3
              obtain ⟨Y3, hY3⟩ : ∃ Y3, Y3 = (idsT l).take (m + 1) := ⟨_, rfl⟩
              rw [← hY3] at ho3
              have HY3 := Lib.hid hY3
              have HO3 := Lib.hid ho3
              obtain ⟨A5, c5, rfl, _, _⟩ := Kd.own_slice ho3
              have hB5 : Below B2 wr w5 := hB4.trans hb3
              refine hK _ _ (fun _ => HK.out _ hB5) ?_
              clear hK K hY3 ho3 hg3 hv3
              try simp only [Act.put, List.setIfInBounds_toArray, List.set_cons_zero, List.set_cons_succ] at hinv ⊢
              clear hS
              have hS := HK.out _ hB5
              refine HeldZ.take (v := ?vu38_29) 29 hinv rfl (by kernel_rfl) (by kernel_rfl) (by decide) (by decide) (by kernel_rfl) (by kernel_rfl) (by kernel_rfl) (fun _ _ _ h => h) hS (Or.inl ⟨by rfl, ?hyu38_29⟩) ?_
              case hyu38_29 => (intro w hSw; (try dsimp only at hSw); go_simp; try with_reducible rfl)
              clear hinv
              intro hinv
              try simp only [Act.put, List.setIfInBounds_toArray, List.set_cons_zero, List.set_cons_succ] at hinv ⊢
              refine HeldZ.take (v := ?vu39_30) 30 hinv rfl (by kernel_rfl) (by kernel_rfl) (by decide) (by decide) (by kernel_rfl) (by kernel_rfl) (by kernel_rfl) (fun _ _ _ h => h) hS (Or.inl ⟨by rfl, ?hyu39_30⟩) ?_
              case hyu39_30 => (intro w hSw; (try dsimp only at hSw); go_simp; try with_reducible rfl)
              clear hinv
              intro hinv
              try simp only [Act.put, List.setIfInBounds_toArray, List.set_cons_zero, List.set_cons_succ] at hinv ⊢
              have HO4 := Lib.hid (HOS.out.below (hB5.mono HBl2.out))
              have f3 := HO4.out.free 3
              have e3 := HO4.out.c3
              refine HeldZ.one 31 hinv (by kernel_rfl) rfl rfl ?_
              clear hinv
              intro _ K hK
              go_simp
              refine hK _ _ (fun h => absurd rfl h) ?_
              refine HeldZ.done (by kernel_rfl) ?_ _
              have HOSn := Lib.hid (HO4.out.set3 (.slice A5 Y3.length c5))
              have HEn := Lib.hid (ob_set (o := 3) (v := .slice A5 Y3.length c5) (ob_below HEM.out hB5))
              have HXn := Lib.hid (ob_set (o := 3) (v := .slice A5 Y3.length c5) (ob_below HXM.out hB5))
              have HYn := Lib.hid (Made.own_set_other (g := w.heap.size) (o := 3) (u := .slice A5 Y3.length c5) HO3.out HBl2.out)
              have HBn : Hid (B2 ≤ (w5.setCell ⟨w.heap.size, 3, none⟩ (.slice A5 Y3.length c5)).heap.size) := Lib.hid (by have := hB5.size; have := HBs.out; simp; omega)
              clear hS hK K HO4 f3 e3 hB5 hB4 hB0 hb3 HOS HEM HXM HYo HO3 hz4 hBw4 hBw2 hBw3 hB2 hB3
              go_wp2
              go_roundw
              case rel => exact ⟨m + 1, c5, A5, Y3, by go_num, by omega, Lib.hid ⟨HOSn.out, HEn.out, HXn.out, HYn.out, HY3.out, HBn.out⟩⟩
              case measure => simp [intOf]; omega
            · have hd3 : decide (m < l.length) = false := decide_eq_false hlt3
              have HYE : Hid (Y = idsT l) := Lib.hid (by rw [HJ.out.2.2.2.2.1, List.take_of_length_le (by rw [HIl.out]; omega)])
              have HR : Hid (RefAt wr (fun _ => True) w.heap.size l) := Lib.hid (by
                obtain ⟨hos, hem, hxm, hyo, _, _⟩ := HJ.out
                have ey := HYE.out
                have ex := HXE.out
                have exl := HXl.out
                have ee := HEt.out
                refine ⟨⟨A, c, hos.c0, triK.sl.mono (fun _ _ _ => trivial) (Kd.M_below HM.out hos.bel)⟩, ⟨AE, cE, ?_, ?_⟩, ⟨A2, c2, ?_, ?_⟩, ⟨A3, c3, ?_, ?_⟩⟩
                · rw [← ee]; exact hos.c1
                · rw [← ee]; exact termK.sl.mono (fun _ _ _ => trivial) hem
                · rw [← ee, ← exl]; exact hos.c2
                · have h1 := strK.sl.mono (ok' := fun _ => True) (fun _ _ _ => trivial) hxm
                  rw [exl, ex, ee] at h1
                  exact h1
                · rw [← HIl.out, ← ey]; exact hos.c3
                · have h1 := Kd.own_sl (ok' := fun _ => True) hyo (fun _ _ => trivial) (fun _ _ => trivial)
                  rw [ey, HIl.out] at h1
                  exact h1)
              have HBf := Lib.hid HJ.out.1.bel
              clear HJ
              go_wp2
              go_ret
              exact ⟨⟨_, rfl, HR.out⟩, HBf.out⟩
end Go.Proofs.YtnplommdgfgboaaGreatDoor.RefOf
set_option linter.unusedVariables false
set_option linter.unusedSimpArgs false
namespace Go.Proofs.YtnplommdgfgboaaGreatDoor.PatK
open Go.ChangeShapes Go.RowKit Go.Lib Go.Proofs.YtnplommdgfgboaaGreatDoor.B Go.Proofs.YtnplommdgfgboaaGreatDoor.IdsW
theorem okWide_array {P : Program} {w : World} {r : _} {base : Nat} {t : TypeId} {v : Value} {n : Nat} {e : TypeId} (ht : P.underlying t = some (.array n e)) (h : Value.okWide P w r base t v) : ∃ cs, v = .agg cs ∧ cs.size = P.cellsOf t := by
  simp only [Value.okWide, ht] at h
  obtain ⟨cs, h1, h2, _⟩ := h
  exact ⟨cs, h1, h2⟩
def PatFits (p : Pat) : Prop := (-9223372036854775808 ≤ p.a ∧ p.a ≤ 9223372036854775807) ∧ (-9223372036854775808 ≤ p.b ∧ p.b ≤ 9223372036854775807) ∧ (-9223372036854775808 ≤ p.c ∧ p.c ≤ 9223372036854775807)
def patK : Kd Pat := held 3 (by decide) patL PatFits (fun _ => rfl) (fun t u hu => by
  simp [patL] at hu
  rcases hu with rfl | rfl | rfl <;> rfl)
theorem three {α : Type} {l : List α} (h : l.length = 3) : ∃ a b c, l = [a, b, c] := by
  match l, h with
  | [a, b, c], _ => exact ⟨a, b, c, rfl⟩
theorem opens_arr {P : Program} {t e : TypeId} (ht : P.underlying t = some (.array 3 e)) (ce : P.cellsOf e = 1) (ct : P.cellsOf t = 3) (ie : P.underlying e = some (.int .i64)) : Opens P patK t := fun enc w fuel cs x h hw => by
  obtain ⟨_, _, _, _, hl, _, _⟩ := DataW.trod_array ht h
  have h3 : cs.length = 3 := hl.trans ct
  obtain ⟨c0, c1, c2, rfl⟩ := three h3
  obtain ⟨y0, y1, y2, n, _, k0, k1, k2⟩ := trod_array3 ht ce h
  obtain ⟨n0, e0, _, w0⟩ := DataW.trod_int ie k0
  obtain ⟨n1, e1, _, w1⟩ := DataW.trod_int ie k1
  obtain ⟨n2, e2, _, w2⟩ := DataW.trod_int ie k2
  obtain ⟨⟩ := e0
  obtain ⟨⟩ := e1
  obtain ⟨⟩ := e2
  exact ⟨⟨n0, n1, n2⟩, rfl, Opens.i64_of w0, Opens.i64_of w1, Opens.i64_of w2⟩
theorem opens_pat : Opens Tryz.prog patK 40 := opens_arr Tryz.underlying40 (by kernel_rfl) (by kernel_rfl) Tryz.underlying3
def zeroP {H : Type} : DataW H := .agg [.lit (.int .i64 0), .lit (.int .i64 0), .lit (.int .i64 0)]
end Go.Proofs.YtnplommdgfgboaaGreatDoor.PatK
