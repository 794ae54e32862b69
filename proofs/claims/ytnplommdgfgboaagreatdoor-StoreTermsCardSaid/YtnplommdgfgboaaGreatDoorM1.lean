/-
  Texts of the claim, one behind the other: Base, Frame, Rd, Utf, TermPure, Tx, SB, Env, Card, Bld, LinesPure, Ref4, Ref5.
-/
import Derived.WalkKit
import Derived.Maps.AppendAt
import Derived.Lib.Hide
import Derived.Deep.Draws
import Derived.ArgAppend
import Derived.Laws.BytesArg
import Derived.Laws.BytesString
import Derived.Lib.ConvBytes
import Derived.ProofKit
import Derived.Deep.Slices
import Derived.SizedLaws
import Derived.Test.YtnplommdgfgboaaGreatDoorProg
import Derived.WalkSpells
import Derived.Lib.Strings
import Derived.WalkLawsBesides
import Derived.Deep.LoopGhost
import Derived.Deep.QuietTactic
import Derived.BigQuiet
import Derived.Deep.DeepCutAuto
import Derived.Lib.MapLaws
import Derived.Lib.ValidLaws
import Derived.Lib.TrimAscii
import Derived.Laws.Cover4
import Derived.Laws.IdiomStrings
import Derived.Lib.TrimUEq
import Derived.Test.YtnplommdgfgboaaGreatDoorShelf
import Derived.Lib.LaidU8
import Derived.Test.YtnplommdgfgboaaGreatDoorRows
import Derived.Deep.DeepHandedRow
import Derived.Deep.DeepWitnessRowRef
import Derived.Lib.LaidCaseMet
import Derived.PinnedBridge
import Derived.Lib.Case
/-
  Words for data in memory: kinds of values, rows of them that are read, rows that the call itself has made.
-/
set_option linter.unusedVariables false
set_option linter.unusedSimpArgs false
namespace Go.Proofs.YtnplommdgfgboaaGreatDoor.B
open Go.RowKit

theorem ret_int {k : IntKind} {a b : Int} (h : a = b) : Ending.returned (.int k a) = .returned (.int k b) := by rw [h]
theorem ret_bool {a b : Bool} (h : a = b) : Ending.returned (.bool a) = .returned (.bool b) := by rw [h]
theorem add_add (a : Addr) (i j : Nat) : (a.add i).add j = a.add (i + j) := by
  unfold Addr.add
  split <;> split <;> simp_all <;> omega
theorem add_block (a : Addr) (i : Nat) : (a.add i).block = a.block := by unfold Addr.add; split <;> rfl
theorem add_plain (g j : Nat) : (⟨g, 0, none⟩ : Addr).add j = ⟨g, j, none⟩ := by unfold Addr.add; split <;> simp_all
theorem cell_lt {w : World} {a : Addr} {v : Value} (h : w.cell? a = some v) : a.block < w.heap.size := World.block_lt_of_cell? w a h
theorem cell_same {w w1 : World} {a : Addr} {v : Value} (h : w.cell? a = some v) (hm : w1.heap[a.block]? = w.heap[a.block]?) : w1.cell? a = some v := (World.cell?_of_block hm).trans h

theorem bel_alloc {w W : World} (h : Below w.heap.size w W) (o : Obj) : Below w.heap.size w (W.alloc o) := h.alloc h.size o
theorem bel_drew {w W : World} (h : Below w.heap.size w W) : Below w.heap.size w W.drew := h.drew
theorem bel_drewN {w W : World} (h : Below w.heap.size w W) (n : Nat) : Below w.heap.size w (W.drewN n) := ⟨h.os, h.tape, h.output, h.size, h.block⟩
theorem bel_step {w W W' : World} (h : Below w.heap.size w W) (k : Below W.heap.size W W') : Below w.heap.size w W' := h.trans (k.mono h.size)
theorem bel_set {w W : World} (h : Below w.heap.size w W) {g j : Nat} (hg : w.heap.size ≤ g) (u : Value) : Below w.heap.size w (W.setCell ⟨g, j, none⟩ u) := h.setCell hg u

/-- A kind of values: how many cells, and when cells in a world are a datum; 'ok': the blocks that may be led to. -/
structure Kd (α : Type) where
  sz : Nat
  pos : 0 < sz
  M : World → (Nat → Prop) → α → List Value → Prop
  len : ∀ {w ok x cs}, M w ok x cs → cs.length = sz
  one : ∀ {w ok x cs}, M w ok x cs → ∀ u ∈ cs, u.oneCell' = true
  mono : ∀ {w : World} {ok ok' : Nat → Prop} {x cs}, (∀ k, ok k → k < w.heap.size → ok' k) → M w ok x cs → M w ok' x cs
  move : ∀ {w w1 : World} {ok : Nat → Prop} {x cs}, (∀ k, ok k → k < w.heap.size → w1.heap[k]? = w.heap[k]?) → M w ok x cs → M w1 ok x cs

/-- A kind whose values are their cells. -/
def flat {α : Type} (sz : Nat) (pos : 0 < sz) (enc : α → List Value) (hl : ∀ x, (enc x).length = sz) (h1 : ∀ x, ∀ u ∈ enc x, u.oneCell' = true) : Kd α where
  sz := sz
  pos := pos
  M := fun _ _ x cs => cs = enc x
  len := fun h => by rw [h]; exact hl _
  one := fun h => by rw [h]; exact h1 _
  mono := fun _ h => h
  move := fun _ h => h
def byteK : Kd UInt8 := flat 1 (by decide) (fun c => [.int .u8 (c.toNat : Int)]) (fun _ => rfl) (fun _ u hu => by simp at hu; subst hu; rfl)
def runeK : Kd Int := flat 1 (by decide) (fun n => [.int .i32 n]) (fun _ => rfl) (fun _ u hu => by simp at hu; subst hu; rfl)
def boolK : Kd Bool := flat 1 (by decide) (fun n => [.bool n]) (fun _ => rfl) (fun _ u hu => by simp at hu; subst hu; rfl)
/-- A kind whose values are their cells, under a condition. -/
def held {α : Type} (sz : Nat) (pos : 0 < sz) (enc : α → List Value) (fits : α → Prop) (hl : ∀ x, (enc x).length = sz) (h1 : ∀ x, ∀ u ∈ enc x, u.oneCell' = true) : Kd α where
  sz := sz
  pos := pos
  M := fun _ _ x cs => cs = enc x ∧ fits x
  len := fun h => by rw [h.1]; exact hl _
  one := fun h => by rw [h.1]; exact h1 _
  mono := fun _ h => h
  move := fun _ h => h
def strK : Kd ByteArray := held 1 (by decide) (fun n => [.string n]) (fun n => n.size ≤ 140737488355328) (fun _ => rfl) (fun _ u hu => by simp at hu; subst hu; rfl)

theorem u8_lit (l : List UInt8) (i : Nat) (x : UInt8) (h : l[i]? = some x) : (((l.map fun c => Value.int .u8 (c.toNat : Int)).drop (i * 1)).take 1) = [.int .u8 (x.toNat : Int)] := by
  have hi : i < l.length := (List.getElem?_eq_some_iff.1 h).1
  rw [Nat.mul_one, ← List.map_drop, ← List.map_take, List.drop_eq_getElem_cons hi]
  rw [List.getElem?_eq_getElem hi] at h
  cases h
  rfl
def intK : Kd Int := held 1 (by decide) (fun n => [.int .i64 n]) (fun n => -9223372036854775808 ≤ n ∧ n ≤ 9223372036854775807) (fun _ => rfl) (fun _ u hu => by simp at hu; subst hu; rfl)
namespace Kd
variable {α : Type} {d : Kd α} {w w1 : World} {ok ok' : Nat → Prop} {A : Option Addr} {xs ys : List α} {e : TypeId} {base : Nat} {v : Value}

/-- A row of values lies at A. -/
def row (d : Kd α) (w : World) (ok : Nat → Prop) (A : Option Addr) (xs : List α) : Prop :=
  ∀ i x, xs[i]? = some x → ∃ ad cs, A = some ad ∧ ok ad.block ∧ d.M w ok x cs ∧ ∀ j u, cs[j]? = some u → w.cell? (ad.add (i * d.sz + j)) = some u

theorem row_nil (d : Kd α) (w : World) (ok : Nat → Prop) (A : Option Addr) : d.row w ok A [] := fun i x h => by simp at h
theorem row_lt {ad : Addr} {i : Nat} {cs : List Value} (hl : cs.length = d.sz) (h : ∀ j u, cs[j]? = some u → w.cell? (ad.add (i * d.sz + j)) = some u) : ad.block < w.heap.size := by
  have hp := d.pos
  have h0 : cs[0]? = some (cs[0]'(by omega)) := List.getElem?_eq_getElem (by omega)
  have := cell_lt (h 0 _ h0)
  rwa [add_block] at this
theorem row_mono (hok : ∀ k, ok k → k < w.heap.size → ok' k) (h : d.row w ok A xs) : d.row w ok' A xs := fun i x hx => by
  obtain ⟨ad, cs, hA, ho, hM, hc⟩ := h i x hx
  exact ⟨ad, cs, hA, hok _ ho (row_lt (d.len hM) hc), d.mono hok hM, hc⟩
theorem row_move (hm : ∀ k, ok k → k < w.heap.size → w1.heap[k]? = w.heap[k]?) (h : d.row w ok A xs) : d.row w1 ok A xs := fun i x hx => by
  obtain ⟨ad, cs, hA, ho, hM, hc⟩ := h i x hx
  have hlt := row_lt (d.len hM) hc
  exact ⟨ad, cs, hA, ho, d.move hm hM, fun j u hu => cell_same (hc j u hu) (by rw [add_block]; exact hm _ ho hlt)⟩
theorem row_below (h : d.row w ok A xs) (hb : Below w.heap.size w w1) : d.row w1 ok A xs := row_move (fun k _ hk => hb.block k hk) h
theorem M_below {x : α} {cs : List Value} (h : d.M w ok x cs) (hb : Below w.heap.size w w1) : d.M w1 ok x cs := d.move (fun k _ hk => hb.block k hk) h

/-- What is at place i. -/
theorem row_at (h : d.row w ok A xs) {i : Nat} (hi : i < xs.length) : ∃ ad cs, A = some ad ∧ d.M w ok xs[i] cs ∧ ∀ j u, cs[j]? = some u → w.cell? (ad.add (i * d.sz + j)) = some u := by
  obtain ⟨ad, cs, h1, _, h3, h4⟩ := h i xs[i] (List.getElem?_eq_getElem hi)
  exact ⟨ad, cs, h1, h3, h4⟩
/-- The row's address written out. -/
theorem row_addr (h : d.row w ok A xs) (hp : 0 < xs.length) : ∃ b off, A = some ⟨b, off, none⟩ ∧ ok b ∧ b < w.heap.size ∧ ∀ i (hi : i < xs.length), ∃ cs, d.M w ok xs[i] cs ∧ ∀ j u, cs[j]? = some u → w.cell? ⟨b, off + i * d.sz + j, none⟩ = some u := by
  obtain ⟨ad, cs, hA, ho, hM, hc⟩ := h 0 xs[0] (List.getElem?_eq_getElem hp)
  obtain ⟨b, off, spot⟩ := ad
  have hl := d.len hM
  have hpos := d.pos
  have h0 := hc 0 cs[0] (List.getElem?_eq_getElem (by omega))
  rw [Nat.zero_mul, Nat.zero_add, Addr.add_zero'] at h0
  have hs : spot = none := by simpa using World.cell?_spot h0
  subst hs
  refine ⟨b, off, hA, ho, cell_lt h0, fun i hi => ?_⟩
  obtain ⟨ad', cs', hA', _, hM', hc'⟩ := h i xs[i] (List.getElem?_eq_getElem hi)
  rw [hA] at hA'
  cases hA'
  refine ⟨cs', hM', fun j u hu => ?_⟩
  have h2 := hc' j u hu
  rw [Addr.add_lit, ← Nat.add_assoc] at h2
  exact h2
theorem row_old {w0 : World} (h : d.row w0 (fun k => k < w0.heap.size) A xs) (hb : Below w0.heap.size w0 w) : d.row w (fun k => k < w0.heap.size) A xs := row_move (fun k hk _ => hb.block k hk) h
theorem M_old {w0 : World} {x : α} {cs : List Value} (h : d.M w0 (fun k => k < w0.heap.size) x cs) (hb : Below w0.heap.size w0 w) : d.M w (fun k => k < w0.heap.size) x cs := d.move (fun k hk _ => hb.block k hk) h
theorem M_bound {x : α} {cs : List Value} (h : d.M w ok x cs) : d.M w (fun k => k < w.heap.size) x cs := d.mono (fun k _ hk => hk) h
/-- One-cell elements: the row's address written out. -/
theorem row_plain (h1 : d.sz = 1) (h : d.row w ok A xs) (hp : 0 < xs.length) : ∃ b off, A = some ⟨b, off, none⟩ ∧ ok b ∧ ∀ i (hi : i < xs.length), ∃ u, w.cell? ⟨b, off + i, none⟩ = some u ∧ d.M w ok xs[i] [u] := by
  obtain ⟨ad, cs, hA, ho, hM, hc⟩ := h 0 xs[0] (List.getElem?_eq_getElem hp)
  obtain ⟨b, off, spot⟩ := ad
  have hl := d.len hM
  rw [h1] at hl
  obtain ⟨u, rfl⟩ : ∃ u, cs = [u] := by
    match cs, hl with
    | [u], _ => exact ⟨u, rfl⟩
  have h0 := hc 0 u rfl
  rw [Nat.zero_mul, Nat.zero_add, Addr.add_zero'] at h0
  have hs : spot = none := by simpa using World.cell?_spot h0
  subst hs
  refine ⟨b, off, hA, ho, fun i hi => ?_⟩
  obtain ⟨ad', cs', hA', _, hM', hc'⟩ := h i xs[i] (List.getElem?_eq_getElem hi)
  rw [hA] at hA'
  cases hA'
  have hl' := d.len hM'
  rw [h1] at hl'
  obtain ⟨u', rfl⟩ : ∃ u, cs' = [u] := by
    match cs', hl' with
    | [u], _ => exact ⟨u, rfl⟩
  have h2 := hc' 0 u' rfl
  rw [h1, Nat.mul_one, Nat.add_zero, Addr.add_lit] at h2
  exact ⟨u', h2, hM'⟩
theorem row_take (h : d.row w ok A xs) (n : Nat) : d.row w ok A (xs.take n) := fun i x hx => by
  rw [List.getElem?_take] at hx
  split at hx
  · exact h i x hx
  · cases hx
theorem row_drop (h : d.row w ok A xs) (n : Nat) : d.row w ok (A.map (·.add (n * d.sz))) (xs.drop n) := fun i x hx => by
  rw [List.getElem?_drop] at hx
  obtain ⟨ad, cs, hA, ho, hM, hc⟩ := h _ x hx
  refine ⟨ad.add (n * d.sz), cs, by rw [hA]; rfl, by rw [add_block]; exact ho, hM, fun j u hu => ?_⟩
  rw [add_add, ← Nat.add_assoc, ← Nat.add_mul]
  exact hc j u hu

/-- A slice. -/
def sl (d : Kd α) : Kd (List α) where
  sz := 1
  pos := by decide
  M := fun w ok xs cs => ∃ A c, cs = [.slice A xs.length c] ∧ xs.length ≤ c ∧ (xs.length ≤ 140737488355328 ∧ c ≤ maxLen) ∧ (A = none → c = 0) ∧ d.row w ok A xs
  len := fun ⟨_, _, h, _⟩ => by rw [h]; rfl
  one := fun ⟨_, _, h, _⟩ u hu => by rw [h] at hu; simp at hu; subst hu; rfl
  mono := fun hok ⟨A, c, h1, h2, h3, h4, h5⟩ => ⟨A, c, h1, h2, h3, h4, row_mono hok h5⟩
  move := fun hm ⟨A, c, h1, h2, h3, h4, h5⟩ => ⟨A, c, h1, h2, h3, h4, row_move hm h5⟩

/-- A row of the call's own: it lies at the head of a block from 'base' on, which no element leads to. -/
def own (d : Kd α) (e : TypeId) (w : World) (base : Nat) (ok : Nat → Prop) (v : Value) (xs : List α) : Prop :=
  xs.length ≤ 140737488355328 ∧ ∃ cells, w.ownsRow base e d.sz v xs.length cells ∧ ∀ i x, xs[i]? = some x → d.M w (fun k => ok k ∧ some k ≠ v.ownBlock) x ((cells.drop (i * d.sz)).take d.sz)

theorem own_nil (d : Kd α) (e : TypeId) (w : World) (base : Nat) (ok : Nat → Prop) : d.own e w base ok (.slice none 0 0) [] :=
  ⟨by simp, [], World.ownsRow_nil _ _ _ _, fun i x h => by simp at h⟩
theorem own_lt (h : d.own e w base ok v xs) : ∀ k, v.ownBlock = some k → base ≤ k ∧ k < w.heap.size := by
  obtain ⟨_, cells, h1, _⟩ := h
  exact h1.lt
theorem own_mono (hok : ∀ k, ok k → k < w.heap.size → ok' k) (h : d.own e w base ok v xs) : d.own e w base ok' v xs := by
  obtain ⟨h0, cells, h1, h2⟩ := h
  exact ⟨h0, cells, h1, fun i x hx => d.mono (fun k hk hlt => ⟨hok k hk.1 hlt, hk.2⟩) (h2 i x hx)⟩
theorem ownsRow_move {size n : Nat} {cells : List Value} (h : w.ownsRow base e size v n cells) (hm : ∀ k, v.ownBlock = some k → k < w.heap.size → w1.heap[k]? = w.heap[k]?) : w1.ownsRow base e size v n cells := by
  obtain ⟨h1, h2⟩ := h
  refine ⟨h1, ?_⟩
  rcases h2 with h2 | ⟨g, cap, cur, rfl, hg, hh, r⟩
  · exact .inl h2
  · have hlt : g < w.heap.size := (Array.getElem?_eq_some_iff.1 hh).1
    exact .inr ⟨g, cap, cur, rfl, hg, (hm g rfl hlt).trans hh, r⟩
theorem own_move (hm : ∀ k, (ok k ∨ v.ownBlock = some k) → k < w.heap.size → w1.heap[k]? = w.heap[k]?) (h : d.own e w base ok v xs) : d.own e w1 base ok v xs := by
  obtain ⟨h0, cells, h1, h2⟩ := h
  exact ⟨h0, cells, ownsRow_move h1 (fun k hk hlt => hm k (.inr hk) hlt), fun i x hx => d.move (fun k hk hlt => hm k (.inl hk.1) hlt) (h2 i x hx)⟩
theorem own_below (h : d.own e w base ok v xs) (hb : Below w.heap.size w w1) : d.own e w1 base ok v xs := own_move (fun k _ hk => hb.block k hk) h
theorem own_alloc (h : d.own e w base ok v xs) (o : Obj) : d.own e (w.alloc o) base ok v xs := own_below h ((Below.refl _ _).alloc (Nat.le_refl _) o)
theorem own_lower {base' : Nat} (hb : base' ≤ base) (h : d.own e w base ok v xs) : d.own e w base' ok v xs := by
  obtain ⟨h0, cells, ⟨h1, h2⟩, h3⟩ := h
  refine ⟨h0, cells, ⟨h1, ?_⟩, h3⟩
  rcases h2 with h2 | ⟨g, cap, cur, rfl, hg, r⟩
  · exact .inl h2
  · exact .inr ⟨g, cap, cur, rfl, by omega, r⟩
theorem own_drew (h : d.own e w base ok v xs) : d.own e w.drew base ok v xs := own_move (w := w) (w1 := w.drew) (fun _ _ _ => rfl) h
/-- Another row has been written. -/
theorem own_grown {row : Option Nat} (h : d.own e w base ok v xs) (hg : w.grownBy w1 row) (h1 : ∀ k, ok k → some k ≠ row) (h2 : ∀ k, v.ownBlock = some k → some k ≠ row) : d.own e w1 base ok v xs :=
  own_move (fun k hk hlt => hg.block k hlt (hk.elim (h1 k) (h2 k))) h
theorem take_drop_get {cells : List Value} {i s j : Nat} {u : Value} (h : ((cells.drop (i * s)).take s)[j]? = some u) : cells[i * s + j]? = some u := by
  rw [List.getElem?_take] at h
  split at h
  · rwa [List.getElem?_drop] at h
  · cases h
/-- A row of the call's own, read. -/
theorem own_sl (h : d.own e w base ok v xs) (h1 : ∀ k, base ≤ k → ok' k) (h2 : ∀ k, ok k → ok' k) : d.sl.M w ok' xs [v] := by
  obtain ⟨hlen, cells, ho, hr⟩ := h
  rcases ho.2 with ⟨rfl, h0⟩ | ⟨g, cap, cur, rfl, hg, hh, hnc, hcm, hcs, htake⟩
  · obtain rfl : xs = [] := List.eq_nil_of_length_eq_zero h0
    exact ⟨none, 0, rfl, Nat.le_refl _, ⟨hlen, Nat.zero_le _⟩, fun _ => rfl, row_nil _ _ _ _⟩
  · refine ⟨_, cap, rfl, hnc, ⟨hlen, hcm⟩, fun h => (by cases h), fun i x hx => ⟨_, _, rfl, h1 g hg, d.mono (fun k hk _ => h2 k hk.1) (hr i x hx), fun j u hu => ?_⟩⟩
    exact ho.cells rfl _ _ (take_drop_get hu)
theorem own_slice (h : d.own e w base ok v xs) : ∃ A c, v = .slice A xs.length c ∧ xs.length ≤ c ∧ (A = none → c = 0) := by
  obtain ⟨A, c, h1, h2, _, h3, _⟩ := own_sl (ok' := fun _ => True) h (fun _ _ => trivial) (fun _ _ => trivial)
  simp at h1
  exact ⟨A, c, h1, h2, h3⟩
/-- A block that the call has laid. -/
theorem own_block {g : Nat} {cells : List Value} (hb : base ≤ g) (hh : w.heap[g]? = some (.cells cells.toArray e (0, 0))) (hl : cells.length = xs.length * d.sz) (hm : xs.length ≤ 140737488355328)
    (hr : ∀ i x, xs[i]? = some x → d.M w (fun k => ok k ∧ k ≠ g) x ((cells.drop (i * d.sz)).take d.sz)) : d.own e w base ok (.slice (some ⟨g, 0, none⟩) xs.length xs.length) xs := by
  refine ⟨hm, cells, ⟨hl, .inr ⟨g, _, _, rfl, hb, hh, Nat.le_refl _, by unfold maxLen; omega, by simpa using hl, ?_⟩⟩, fun i x hx => d.mono (fun k hk _ => ⟨hk.1, fun e => hk.2 (by simpa [Value.ownBlock] using e)⟩) (hr i x hx)⟩
  show cells.take _ = cells
  rw [List.take_of_length_le (by omega)]

theorem own_form (h : d.own e w base ok v xs) (hp : 0 < xs.length) : ∃ g cap, v = .slice (some ⟨g, 0, none⟩) xs.length cap ∧ base ≤ g ∧ g < w.heap.size ∧ xs.length ≤ cap := by
  obtain ⟨_, cells, ho, hr⟩ := h
  rcases ho.2 with ⟨rfl, h0⟩ | ⟨g, cap, cur, rfl, hg, hh, hnc, hcm, hcs, htake⟩
  · omega
  · exact ⟨g, cap, rfl, hg, (Array.getElem?_eq_some_iff.1 hh).1, hnc⟩
theorem own_frozen {g n cap : Nat} (h : d.own e w base ok (.slice (some ⟨g, 0, none⟩) n cap) xs) (j : Nat) : w.frozen? ⟨g, j, none⟩ = false := by
  obtain ⟨_, cells, ho, _⟩ := h
  rcases ho.2 with ⟨h, _⟩ | ⟨g', cap, cur, he, _, hh, _⟩
  · simp at h
  · simp at he
    obtain ⟨rfl, _⟩ := he
    simp [World.frozen?, hh]
/-- One-cell elements: the cell of one. -/
theorem own_cell (h1 : d.sz = 1) {g n cap : Nat} (h : d.own e w base ok (.slice (some ⟨g, 0, none⟩) n cap) xs) {i : Nat} (hi : i < xs.length) :
    ∃ u, w.cell? ⟨g, i, none⟩ = some u ∧ d.M w (fun k => ok k ∧ k ≠ g) xs[i] [u] := by
  obtain ⟨_, cells, ho, hr⟩ := h
  have hM := hr i xs[i] (List.getElem?_eq_getElem hi)
  have hl := ho.1
  rw [h1, Nat.mul_one] at hl hM
  have hic : i < cells.length := by omega
  have he : (cells.drop i).take 1 = [cells[i]] := by rw [List.drop_eq_getElem_cons hic]; rfl
  rw [he] at hM
  refine ⟨cells[i], ?_, d.mono (fun k hk _ => ⟨hk.1, fun e => hk.2 (by rw [e]; rfl)⟩) hM⟩
  have := ho.cells rfl i cells[i] (List.getElem?_eq_getElem hic)
  rwa [add_plain] at this
/-- A store of a one-cell element. -/
theorem own_set (h1 : d.sz = 1) {g n cap : Nat} (h : d.own e w base ok (.slice (some ⟨g, 0, none⟩) n cap) xs) {i : Nat} (hi : i < xs.length) {x : α} {u : Value} (hM : d.M w (fun k => ok k ∧ k ≠ g) x [u]) :
    d.own e (w.setCell ⟨g, i, none⟩ u) base ok (.slice (some ⟨g, 0, none⟩) n cap) (xs.set i x) := by
  obtain ⟨hlen, cells, ho, hr⟩ := h
  have hl := ho.1
  rw [h1, Nat.mul_one] at hl
  have hmv : ∀ k, (ok k ∧ some k ≠ (Value.slice (some ⟨g, 0, none⟩) n cap).ownBlock) → k < w.heap.size → (w.setCell ⟨g, i, none⟩ u).heap[k]? = w.heap[k]? := fun k hk _ =>
    Below.heap_setCell _ _ _ _ (fun e => hk.2 (by rw [e]; rfl))
  have hst : (w.setCell ⟨g, i, none⟩ u).ownsRow base e d.sz (.slice (some ⟨g, 0, none⟩) n cap) xs.length (cells.set i u) := by
    have hn : n = xs.length := by
      rcases ho.2 with ⟨h0, _⟩ | ⟨g', cap', cur, he, _⟩
      · simp at h0
      · simp at he
        exact he.2.1
    subst hn
    exact (ho.stored i u).1
  refine ⟨by rw [List.length_set]; exact hlen, cells.set i u, by rw [List.length_set]; exact hst, fun j y hj => ?_⟩
  rw [List.getElem?_set] at hj
  have hset : ((cells.set i u).drop j).take 1 = if i = j then [u] else (cells.drop j).take 1 := by
    apply List.ext_getElem?
    intro q
    rw [List.getElem?_take, List.getElem?_drop, List.getElem?_set]
    cases q with
    | zero =>
      by_cases hij : i = j
      · subst hij
        have hic : i < cells.length := by omega
        simp [hic]
      · simp [hij]
    | succ q =>
      have e2 : (if i = j then [u] else (cells.drop j).take 1)[q + 1]? = none := by split <;> simp <;> omega
      rw [if_neg (by omega), e2]
  rw [h1, Nat.mul_one, hset]
  split at hj
  · rename_i hij
    subst hij
    simp [hi] at hj
    subst hj
    rw [if_pos rfl]
    exact d.move hmv (d.mono (fun k hk _ => ⟨hk.1, fun e => hk.2 (by simpa [Value.ownBlock] using e)⟩) hM)
  · rename_i hij
    rw [if_neg hij]
    have h2 := hr j y hj
    rw [h1, Nat.mul_one] at h2
    exact d.move hmv h2

theorem alloc_heap (w : World) (o : Obj) : (w.alloc o).heap = w.heap.push o := rfl
theorem heap_new (w : World) (o : Obj) : (w.alloc o).heap[w.heap.size]? = some o := by
  show (w.heap.push o)[w.heap.size]? = _
  simp
theorem heap_old (w : World) (o : Obj) {k : Nat} {x : Obj} (h : w.heap[k]? = some x) : (w.alloc o).heap[k]? = some x := by
  have hlt : k < w.heap.size := (Array.getElem?_eq_some_iff.1 h).1
  exact (Below.heap_alloc w o k hlt).trans h
/-- Block g holds the cells C. -/
def bi (w : World) (g : Nat) (C : Array Value) : Prop := ∃ e fr, w.heap[g]? = some (.cells C e fr)
theorem bi_new {w : World} {g : Nat} {C : Array Value} {e : TypeId} {fr : Nat × Nat} (h : w.heap.size = g) : bi (w.alloc (.cells C e fr)) g C := ⟨e, fr, by subst h; exact heap_new w _⟩
theorem bi_old {w : World} {g : Nat} {C : Array Value} {o : Obj} (h : bi w g C) : bi (w.alloc o) g C := by
  obtain ⟨e, fr, h⟩ := h
  exact ⟨e, fr, heap_old w o h⟩
theorem bi_drew {w : World} {g : Nat} {C : Array Value} (h : bi w g C) : bi w.drew g C := h
theorem bi_below {w w1 : World} {g : Nat} {C : Array Value} (h : bi w g C) (hb : Below w.heap.size w w1) : bi w1 g C := by
  obtain ⟨e, fr, h⟩ := h
  exact ⟨e, fr, (hb.block g (Array.getElem?_eq_some_iff.1 h).1).trans h⟩
/-- A row that lies at the head of a block. -/
theorem row_block {g : Nat} {C : Array Value} (hh : bi w g C) (hok : ok g)
    (hr : ∀ i x, xs[i]? = some x → d.M w ok x ((C.toList.drop (i * d.sz)).take d.sz)) : d.row w ok (some ⟨g, 0, none⟩) xs := fun i x hx => by
  obtain ⟨e, fr, hh⟩ := hh
  refine ⟨_, _, rfl, hok, hr i x hx, fun j u hu => ?_⟩
  have := take_drop_get hu
  rw [add_plain, World.cell?, hh]
  simpa using this
theorem row_one {g : Nat} {C : Array Value} {x : α} (hh : bi w g C) (hok : ok g) (hM : d.M w ok x C.toList) : d.row w ok (some ⟨g, 0, none⟩) [x] :=
  row_block hh hok (fun i y hy => by
    cases i with
    | zero =>
      simp at hy
      subst hy
      rw [Nat.zero_mul, List.drop_zero, List.take_of_length_le (by rw [d.len hM]; exact Nat.le_refl _)]
      exact hM
    | succ i => simp at hy)
theorem row_two {g : Nat} {C : Array Value} {x y : α} {c1 c2 : List Value} (hh : bi w g C) (hok : ok g) (hC : C.toList = c1 ++ c2) (hM : d.M w ok x c1) (hN : d.M w ok y c2) : d.row w ok (some ⟨g, 0, none⟩) [x, y] :=
  row_block hh hok (fun i z hz => by
    have h1 := d.len hM
    have h2 := d.len hN
    match i, hz with
    | 0, hz =>
      simp at hz
      subst hz
      rw [hC, Nat.zero_mul, List.drop_zero, ← h1, List.take_left]
      exact hM
    | 1, hz =>
      simp at hz
      subst hz
      rw [hC, Nat.one_mul, ← h1, List.drop_left, h1, ← h2, List.take_length]
      exact hN
    | i + 2, hz => simp at hz)

theorem row_u8 {g : Nat} {C : Array Value} {l : List UInt8} (hh : bi w g C) (hok : ok g) (hC : C.toList = l.map fun c => Value.int .u8 (c.toNat : Int)) : byteK.row w ok (some ⟨g, 0, none⟩) l :=
  row_block hh hok fun i x hx => by rw [hC]; exact u8_lit _ i x hx
theorem u8_sl {A : Option Addr} {c : Nat} {l : List UInt8} (h1 : l.length ≤ c) (h2 : l.length ≤ 140737488355328 ∧ c ≤ maxLen) (h3 : A = none → c = 0) (h : byteK.row w ok A l) : byteK.sl.M w ok l [.slice A l.length c] := ⟨A, c, rfl, h1, h2, h3, h⟩

theorem replicate_take {z : Value} {n i : Nat} (h : i < n) : ((List.replicate n z).drop i).take 1 = [z] := by
  rw [List.drop_replicate, List.take_replicate]
  rw [show min 1 (n - i) = 1 by omega]
  rfl
/-- make([]T, n), T of one cell. -/
theorem own_make {x : α} {z : Value} {n : Nat} (hn : n ≤ 140737488355328) (h1 : d.sz = 1) (hz : ∀ w ok, d.M w ok x [z]) (h : w.ownsRow base e 1 v n (List.replicate (n * 1) z)) : d.own e w base ok v (List.replicate n x) := by
  rw [Nat.mul_one] at h
  refine ⟨by simpa using hn, List.replicate n z, by rw [h1, List.length_replicate]; exact h, fun i y hy => ?_⟩
  have hi : i < n := by have := (List.getElem?_eq_some_iff.1 hy).1; simpa using this
  rw [List.getElem?_replicate, if_pos hi] at hy
  cases hy
  rw [h1, Nat.mul_one, replicate_take hi]
  exact hz _ _

section app
variable {P : Program} {W w0 : World} {ops : Array Oper} {rest : List Oper} {o : Oper} {a : Act} {Q : Exit → Act → World → Prop}

theorem flat_get {f : Nat → List Value} {s : Nat} : ∀ (n : Nat), (∀ i, i < n → (f i).length = s) → ((List.range n).flatMap f).length = n * s := by
  intro n
  induction n with
  | zero => intro _; simp
  | succ n ih =>
    intro h
    rw [List.range_succ, List.flatMap_append, List.length_append, ih (fun i hi => h i (by omega)), List.flatMap_cons, List.flatMap_nil, List.append_nil, h n (by omega), Nat.succ_mul]
theorem flat_at {f : Nat → List Value} {s : Nat} : ∀ (n : Nat), (∀ i, i < n → (f i).length = s) → ∀ i j, i < n → j < s → ((List.range n).flatMap f)[i * s + j]? = (f i)[j]? := by
  intro n
  induction n with
  | zero => intro _ i j hi; omega
  | succ n ih =>
    intro h i j hi hj
    have hl := flat_get n (fun i hi => h i (by omega))
    rw [List.range_succ, List.flatMap_append, List.flatMap_cons, List.flatMap_nil, List.append_nil]
    by_cases hin : i < n
    · have : i * s + j < n * s := by
        have := Nat.mul_le_mul_right s (show i + 1 ≤ n from hin)
        rw [Nat.succ_mul] at this
        omega
      rw [List.getElem?_append_left (by omega)]
      exact ih (fun i hi => h i (by omega)) i j hin hj
    · obtain rfl : i = n := by omega
      rw [List.getElem?_append_right (by omega), hl, Nat.add_sub_cancel_left]

/-- The cells of a row, one behind the other. -/
theorem row_cells {okE : Nat → Prop} {ad : Addr} {ys : List α} (h : ∀ i x, ys[i]? = some x → ∃ cs, d.M W okE x cs ∧ ∀ j u, cs[j]? = some u → W.cell? (ad.add (i * d.sz + j)) = some u) :
    ∃ news : List Value, news.length = ys.length * d.sz ∧ (∀ j u, news[j]? = some u → W.cell? (ad.add j) = some u) ∧ (∀ u ∈ news, u.oneCell' = true) ∧
      ∀ i x, ys[i]? = some x → d.M W okE x ((news.drop (i * d.sz)).take d.sz) := by
  have hc : ∀ i : Nat, ∃ cs : List Value, i < ys.length → (∀ x, ys[i]? = some x → d.M W okE x cs ∧ ∀ j u, cs[j]? = some u → W.cell? (ad.add (i * d.sz + j)) = some u) := by
    intro i
    by_cases hi : i < ys.length
    · obtain ⟨cs, h1⟩ := h i ys[i] (List.getElem?_eq_getElem hi)
      refine ⟨cs, fun _ x hx => ?_⟩
      rw [List.getElem?_eq_getElem hi] at hx
      cases hx
      exact h1
    · exact ⟨[], fun h => absurd h hi⟩
  let f := fun i => Classical.choose (hc i)
  have hf : ∀ i (hi : i < ys.length), d.M W okE ys[i] (f i) ∧ ∀ j u, (f i)[j]? = some u → W.cell? (ad.add (i * d.sz + j)) = some u :=
    fun i hi => Classical.choose_spec (hc i) hi _ (List.getElem?_eq_getElem hi)
  have hfl : ∀ i, i < ys.length → (f i).length = d.sz := fun i hi => d.len (hf i hi).1
  have hp := d.pos
  have hlen := flat_get ys.length hfl
  have hget : ∀ i x, ys[i]? = some x → (((List.range ys.length).flatMap f).drop (i * d.sz)).take d.sz = f i := by
    intro i x hx
    have hi : i < ys.length := (List.getElem?_eq_some_iff.1 hx).1
    apply List.ext_getElem?
    intro j
    rw [List.getElem?_take, List.getElem?_drop]
    by_cases hj : j < d.sz
    · rw [if_pos hj, flat_at ys.length hfl i j hi hj]
    · rw [if_neg hj, List.getElem?_eq_none (by rw [hfl i hi]; omega)]
  refine ⟨(List.range ys.length).flatMap f, hlen, fun j u hu => ?_, fun u hu => ?_, fun i x hx => ?_⟩
  · have hj : j < ys.length * d.sz := by
      have := (List.getElem?_eq_some_iff.1 hu).1
      omega
    have hq : j / d.sz < ys.length := (Nat.div_lt_iff_lt_mul hp).2 hj
    have hr : j % d.sz < d.sz := Nat.mod_lt _ hp
    have he : j / d.sz * d.sz + j % d.sz = j := by rw [Nat.mul_comm]; exact Nat.div_add_mod j d.sz
    rw [← he, flat_at ys.length hfl _ _ hq hr] at hu
    have := (hf _ hq).2 _ _ hu
    rwa [he] at this
  · obtain ⟨i, hi, hu⟩ := List.mem_flatMap.1 hu
    exact d.one (hf i (List.mem_range.1 hi)).1 u hu
  · rw [hget i x hx]
    have hi : i < ys.length := (List.getElem?_eq_some_iff.1 hx).1
    have := (hf i hi).1
    rw [List.getElem?_eq_getElem hi] at hx
    cases hx
    exact this

/-- What an append does, as a run. -/
theorem own_run (d : Kd α) (base : Nat) (t ty e : TypeId) (z : Value) (bytes : Nat) (ht : P.underlying t = some (.slice e)) (hinfo : (P.info? e).map (fun i => (i.zero, i.size, i.bytes)) = some (some z, d.sz, bytes))
    (hz : z.cells.size = d.sz) (v : Value) (xs ys : List α) (A : Option Addr) (c : Nat) (ok : Nat → Prop) (HO : d.own e W base ok v xs)
    (HR : ∀ i y, ys[i]? = some y → ∃ ad cs, A = some ad ∧ d.M W (fun k => ok k ∧ some k ≠ v.ownBlock) y cs ∧ ∀ j u, cs[j]? = some u → W.cell? (ad.add (i * d.sz + j)) = some u)
    (hA : A = none → c = 0 ∧ ys = []) (HB : Below base w0 W) (hbase : base ≤ W.heap.size) (hl : (xs.length + ys.length) * bytes ≤ 140737488355328) (hb0 : 0 < bytes) :
    ∃ v1 w1, (Builtin.append_ #[t, t] ty #[v, .slice A ys.length c]).run P W = .ok v1 w1 ∧ d.own e w1 base ok v1 (xs ++ ys) ∧ Below base w0 w1 ∧ W.grownBy w1 v.ownBlock ∧
      (v1.ownBlock = v.ownBlock ∨ v1.ownBlock = some W.heap.size) := by
  obtain ⟨i, hi, hz0, hz1, hz2⟩ := info_parts hinfo
  obtain ⟨hlx, cells, ho, hr⟩ := HO
  cases A with
  | none =>
    obtain ⟨rfl, rfl⟩ := hA rfl
    have hrun := run_append_owned_none (P := P) (w := W) base t ty e i d.sz ht hi v _ _ ho
    exact ⟨v, W, hrun, by rw [List.append_nil]; exact ⟨hlx, cells, ho, hr⟩, HB, World.grownBy.refl _ _, .inl rfl⟩
  | some ad =>
    obtain ⟨news, hnl, hnc, hn1, hnM⟩ := row_cells (W := W) (d := d) (ad := ad) (ys := ys) (okE := fun k => ok k ∧ some k ≠ v.ownBlock) (fun i y hy => by
      obtain ⟨ad', cs, h1, h2, h3⟩ := HR i y hy
      cases h1
      exact ⟨cs, h2, h3⟩)
    have h63 : xs.length + ys.length ≤ maxLen := by
      have : xs.length + ys.length ≤ (xs.length + ys.length) * bytes := Nat.le_mul_of_pos_right _ hb0
      unfold maxLen
      omega
    obtain ⟨v1, w1, hrun, h2, h3, _, h5⟩ := run_append_own_at (P := P) W base t ty e i z d.sz bytes ht hi hz0 hz1 hz2 hz d.pos v _ _ ho ad ys.length c news hnl hnc hn1 h63 hl hbase
    have hlt : ∀ k, v.ownBlock = some k → base ≤ k ∧ k < W.heap.size := ho.lt
    have hl47 : (xs ++ ys).length ≤ 140737488355328 := by
      have : xs.length + ys.length ≤ (xs.length + ys.length) * bytes := Nat.le_mul_of_pos_right _ hb0
      rw [List.length_append]
      omega
    refine ⟨v1, w1, hrun, ⟨hl47, cells ++ news, by rw [List.length_append]; exact h2, fun i x hx => ?_⟩, HB.grown h3 hbase (fun k hk => (hlt k hk).1), h3, h5⟩
    have hMold : d.M W (fun k => ok k ∧ some k ≠ v.ownBlock) x (((cells ++ news).drop (i * d.sz)).take d.sz) := by
      have hcl : cells.length = xs.length * d.sz := ho.1
      by_cases hix : i < xs.length
      · have h0 : xs[i]? = some x := by rwa [List.getElem?_append_left hix] at hx
        have hle : i * d.sz + d.sz ≤ cells.length := by
          rw [hcl, ← Nat.succ_mul]; exact Nat.mul_le_mul_right _ hix
        have : ((cells ++ news).drop (i * d.sz)).take d.sz = (cells.drop (i * d.sz)).take d.sz := by
          rw [List.drop_append_of_le_length (by omega), List.take_append_of_le_length (by rw [List.length_drop]; omega)]
        rw [this]
        exact hr i x h0
      · have h0 : ys[i - xs.length]? = some x := by rwa [List.getElem?_append_right (by omega)] at hx
        have hge : xs.length * d.sz ≤ i * d.sz := Nat.mul_le_mul_right _ (by omega)
        have : ((cells ++ news).drop (i * d.sz)).take d.sz = (news.drop ((i - xs.length) * d.sz)).take d.sz := by
          rw [List.drop_append, List.drop_of_length_le (by omega), List.nil_append, hcl, Nat.sub_mul]
        rw [this]
        exact hnM _ x h0
    have hm1 : ∀ k, (ok k ∧ some k ≠ v.ownBlock) → k < W.heap.size → w1.heap[k]? = W.heap[k]? := fun k hk hlt => h3.block k hlt hk.2
    have hM1 := d.move hm1 (d.mono (ok' := fun k => (ok k ∧ some k ≠ v.ownBlock) ∧ k < W.heap.size) (fun k hk hlt => ⟨hk, hlt⟩) hMold |> d.mono (ok' := fun k => ok k ∧ some k ≠ v.ownBlock) (fun k hk _ => hk.1))
    have hM2 : d.M w1 (fun k => (ok k ∧ some k ≠ v.ownBlock) ∧ k < W.heap.size) x (((cells ++ news).drop (i * d.sz)).take d.sz) :=
      d.move (fun k hk hlt => h3.block k hlt hk.1.2) (d.mono (fun k hk hlt => ⟨hk, hlt⟩) hMold)
    refine d.mono (fun k hk _ => ⟨hk.1.1, ?_⟩) hM2
    rcases h5 with h5 | h5
    · rw [h5]; exact hk.1.2
    · rw [h5]
      intro he
      have : k = W.heap.size := by simpa using he
      omega

/-- At the append of a row. -/
theorem own_app (d : Kd α) (base : Nat) (hgd : o.guard = none) (s x : Operand) (t e : TypeId) (z : Value) (bytes : Nat)
    (ho : o.op = .call { callee := .builtin .append, args := #[s, x], argTypes := #[t, t] })
    (ht : P.underlying t = some (.slice e)) (hinfo : (P.info? e).map (fun i => (i.zero, i.size, i.bytes)) = some (some z, d.sz, bytes)) (hz : z.cells.size = d.sz) (hb0 : 0 < bytes)
    (v : Value) (xs ys : List α) (A : Option Addr) (c : Nat) (ok : Nat → Prop) (hs : a.eval s = v) (hx : a.eval x = .slice A ys.length c)
    (HO : d.own e W base ok v xs) (HR : d.sl.M W (fun k => ok k ∧ some k ≠ v.ownBlock) ys [.slice A ys.length c] ∨ d.sl.M W (fun _ => True) ys [.slice A ys.length c] ∧ ∀ w ok ok' x cs, d.M w ok x cs → d.M w ok' x cs)
    (HB : Below base w0 W) (hbase : base ≤ W.heap.size) (hl : (xs.length + ys.length) * bytes ≤ 140737488355328)
    (h : ∀ v1 w1, d.own e w1 base ok v1 (xs ++ ys) → Below base w0 w1 → W.grownBy w1 v.ownBlock → (v1.ownBlock = v.ownBlock ∨ v1.ownBlock = some W.heap.size) → wpList P ops Q rest (a.put o.dst v1) w1) :
    wpList P ops Q (o :: rest) a W := by
  have key : (∀ i y, ys[i]? = some y → ∃ ad cs, A = some ad ∧ d.M W (fun k => ok k ∧ some k ≠ v.ownBlock) y cs ∧ ∀ j u, cs[j]? = some u → W.cell? (ad.add (i * d.sz + j)) = some u) ∧ (A = none → c = 0 ∧ ys = []) := by
    have nil : ∀ {A' c'}, [Value.slice A ys.length c] = [.slice A' ys.length c'] → A = A' ∧ c = c' := fun he => by simp at he; exact he
    rcases HR with ⟨A', c', he, h1, _, h3, h4⟩ | ⟨⟨A', c', he, h1, _, h3, h4⟩, hany⟩ <;> obtain ⟨rfl, rfl⟩ := nil he
    · exact ⟨fun i y hy => by obtain ⟨ad, cs, a1, _, a3, a4⟩ := h4 i y hy; exact ⟨ad, cs, a1, a3, a4⟩, fun hA => ⟨h3 hA, List.eq_nil_of_length_eq_zero (by have := h3 hA; omega)⟩⟩
    · exact ⟨fun i y hy => by obtain ⟨ad, cs, a1, _, a3, a4⟩ := h4 i y hy; exact ⟨ad, cs, a1, hany _ _ _ _ _ a3, a4⟩, fun hA => ⟨h3 hA, List.eq_nil_of_length_eq_zero (by have := h3 hA; omega)⟩⟩
  obtain ⟨v1, w1, hr, h1, h2, h3, h4⟩ := own_run (P := P) (w0 := w0) d base t o.type e z bytes ht hinfo hz v xs ys A c ok HO key.1 key.2 HB hbase hl hb0
  refine wpList_plain hgd fun K hK => ?_
  unfold Oper.wp execOp
  simp only [ho, resolve, invoke, builtin, Sem.run_bind, Sem.run_pure, Result.andThen_ok, List.map_toArray, List.map_cons, List.map_nil, hs, hx, hr]
  exact hK _ _ (h v1 w1 h1 h2 h3 h4)

/-- The same, at a step of a region that draws. -/
theorem own_app_step (d : Kd α) {K : Act → World → Prop} {E : Prop} (base : Nat) (hgd : o.guard = none) (s x : Operand) (t e : TypeId) (z : Value) (bytes : Nat)
    (ho : o.op = .call { callee := .builtin .append, args := #[s, x], argTypes := #[t, t] })
    (ht : P.underlying t = some (.slice e)) (hinfo : (P.info? e).map (fun i => (i.zero, i.size, i.bytes)) = some (some z, d.sz, bytes)) (hz : z.cells.size = d.sz) (hb0 : 0 < bytes)
    (v : Value) (xs ys : List α) (A : Option Addr) (c : Nat) (ok : Nat → Prop) (hs : a.eval s = v) (hx : a.eval x = .slice A ys.length c)
    (HO : d.own e W base ok v xs) (HR : d.sl.M W (fun k => ok k ∧ some k ≠ v.ownBlock) ys [.slice A ys.length c] ∨ d.sl.M W (fun _ => True) ys [.slice A ys.length c] ∧ ∀ w ok ok' x cs, d.M w ok x cs → d.M w ok' x cs)
    (HB : Below base w0 W) (hbase : base ≤ W.heap.size) (hl : (xs.length + ys.length) * bytes ≤ 140737488355328)
    (h : ∀ v1 w1, d.own e w1 base ok v1 (xs ++ ys) → Below base w0 w1 → W.grownBy w1 v.ownBlock → (v1.ownBlock = v.ownBlock ∨ v1.ownBlock = some W.heap.size) → K (a.put o.dst v1) w1) :
    if Region.wanted o (yielded ops a.tmps) = true then Oper.wp P o a W K Q else E := by
  have hw : Region.wanted o (yielded ops a.tmps) = true := by simp [Region.wanted, hgd]
  rw [if_pos hw]
  have key : (∀ i y, ys[i]? = some y → ∃ ad cs, A = some ad ∧ d.M W (fun k => ok k ∧ some k ≠ v.ownBlock) y cs ∧ ∀ j u, cs[j]? = some u → W.cell? (ad.add (i * d.sz + j)) = some u) ∧ (A = none → c = 0 ∧ ys = []) := by
    have nil : ∀ {A' c'}, [Value.slice A ys.length c] = [.slice A' ys.length c'] → A = A' ∧ c = c' := fun he => by simp at he; exact he
    rcases HR with ⟨A', c', he, h1, _, h3, h4⟩ | ⟨⟨A', c', he, h1, _, h3, h4⟩, hany⟩ <;> obtain ⟨rfl, rfl⟩ := nil he
    · exact ⟨fun i y hy => by obtain ⟨ad, cs, a1, _, a3, a4⟩ := h4 i y hy; exact ⟨ad, cs, a1, a3, a4⟩, fun hA => ⟨h3 hA, List.eq_nil_of_length_eq_zero (by have := h3 hA; omega)⟩⟩
    · exact ⟨fun i y hy => by obtain ⟨ad, cs, a1, _, a3, a4⟩ := h4 i y hy; exact ⟨ad, cs, a1, hany _ _ _ _ _ a3, a4⟩, fun hA => ⟨h3 hA, List.eq_nil_of_length_eq_zero (by have := h3 hA; omega)⟩⟩
  obtain ⟨v1, w1, hr, h1, h2, h3, h4⟩ := own_run (P := P) (w0 := w0) d base t o.type e z bytes ht hinfo hz v xs ys A c ok HO key.1 key.2 HB hbase hl hb0
  unfold Oper.wp execOp
  simp only [ho, resolve, invoke, builtin, Sem.run_bind, Sem.run_pure, Result.andThen_ok, List.map_toArray, List.map_cons, List.map_nil, hs, hx, hr]
  exact h v1 w1 h1 h2 h3 h4

/-- At the append of one value, which the translation lays into a new block first. -/
theorem own_app1 (d : Kd α) (base : Nat) (hgd : o.guard = none) (s x : Operand) (t e : TypeId) (z : Value) (bytes : Nat)
    (ho : o.op = .call { callee := .builtin .append, args := #[s, x], argTypes := #[t, t] })
    (ht : P.underlying t = some (.slice e)) (hinfo : (P.info? e).map (fun i => (i.zero, i.size, i.bytes)) = some (some z, d.sz, bytes)) (hz : z.cells.size = d.sz) (hb0 : 0 < bytes)
    (v : Value) (xs : List α) (y : α) (cs : List Value) (ok : Nat → Prop) (hs : a.eval s = v) (hx : a.eval x = .slice (some ⟨W.heap.size, 0, none⟩) 1 1)
    (HO : d.own e W base ok v xs) (HM : d.M W (fun k => ok k ∧ some k ≠ v.ownBlock) y cs)
    (HB : Below base w0 W) (hbase : base ≤ W.heap.size) (hl : (xs.length + 1) * bytes ≤ 140737488355328)
    (h : ∀ v1 w1, d.own e w1 base ok v1 (xs ++ [y]) → Below base w0 w1 → W.grownBy w1 v.ownBlock → (v1.ownBlock = v.ownBlock ∨ ∃ b, v1.ownBlock = some b ∧ W.heap.size ≤ b) → wpList P ops Q rest (a.put o.dst v1) w1) :
    wpList P ops Q (o :: rest) a (W.alloc (.cells cs.toArray e)) := by
  have hbel : Below W.heap.size W (W.alloc (.cells cs.toArray e)) := (Below.refl _ _).alloc (Nat.le_refl _) _
  have hcl := d.len HM
  have hh : (W.alloc (.cells cs.toArray e)).heap[W.heap.size]? = some (.cells cs.toArray e (0, 0)) := by
    show (W.heap.push _)[W.heap.size]? = _
    simp
  obtain ⟨v1, w1, hr, h1, h2, h3, h4⟩ := own_run (P := P) (w0 := w0) (W := W.alloc (.cells cs.toArray e)) d base t o.type e z bytes ht hinfo hz v xs [y] (some ⟨W.heap.size, 0, none⟩) 1 ok (own_alloc HO _)
    (fun i q hq => by
      have : i = 0 ∧ q = y := by
        cases i with
        | zero => simp at hq; exact ⟨rfl, hq.symm⟩
        | succ i => simp at hq
      obtain ⟨rfl, rfl⟩ := this
      refine ⟨_, cs, rfl, M_below HM hbel, fun j u hu => ?_⟩
      rw [Nat.zero_mul, Nat.zero_add, add_plain]
      rw [World.cell?, hh]
      simpa using hu)
    (fun h => by cases h) (HB.alloc hbase _) (by have := hbel.size; omega) hl hb0
  refine wpList_plain hgd fun K hK => ?_
  unfold Oper.wp execOp
  have hr' : (Builtin.append_ #[t, t] o.type #[v, .slice (some ⟨W.heap.size, 0, none⟩) 1 1]).run P (W.alloc (.cells cs.toArray e)) = .ok v1 w1 := hr
  simp only [ho, resolve, invoke, builtin, Sem.run_bind, Sem.run_pure, Result.andThen_ok, List.map_toArray, List.map_cons, List.map_nil, hs, hx, hr']
  refine hK _ _ (h v1 w1 h1 h2 ⟨h3.os.trans hbel.os, h3.tape.trans hbel.tape, h3.output.trans hbel.output, Nat.le_trans hbel.size h3.size, fun k hk hne => (h3.block k (by have := hbel.size; omega) hne).trans (hbel.block k hk)⟩ ?_)
  rcases h4 with h4 | h4
  · exact .inl h4
  · exact .inr ⟨_, h4, hbel.size⟩
end app

section more
variable {P : Program} {W : World} {ops : Array Oper} {rest : List Oper} {o : Oper} {a : Act} {Q : Exit → Act → World → Prop}

/-- A new row behind one that came in and has no room. -/
theorem own_grow (d : Kd α) (hgd : o.guard = none) (s x : Operand) (t e : TypeId) (z : Value) (bytes : Nat)
    (ho : o.op = .call { callee := .builtin .append, args := #[s, x], argTypes := #[t, t] })
    (ht : P.underlying t = some (.slice e)) (hinfo : (P.info? e).map (fun i => (i.zero, i.size, i.bytes)) = some (some z, d.sz, bytes)) (hz : z.cells.size = d.sz) (hb0 : 0 < bytes)
    (xs ys : List α) (Ax A : Option Addr) (cx c : Nat) (ok : Nat → Prop) (hs : a.eval s = .slice Ax xs.length cx) (hx : a.eval x = .slice A ys.length c)
    (HX : d.sl.M W ok xs [.slice Ax xs.length cx]) (HY : d.sl.M W ok ys [.slice A ys.length c]) (hfull : cx < xs.length + ys.length) (hy : 0 < ys.length)
    (hl : (xs.length + ys.length) * bytes ≤ 140737488355328)
    (h : ∀ v1 w1, d.own e w1 W.heap.size ok v1 (xs ++ ys) → Below W.heap.size W w1 → wpList P ops Q rest (a.put o.dst v1) w1) :
    wpList P ops Q (o :: rest) a W := by
  obtain ⟨i, hi, hz0, hz1, hz2⟩ := info_parts hinfo
  have nil : ∀ {n : Nat} {A A' : Option Addr} {c c' : Nat}, [Value.slice A n c] = [.slice A' n c'] → A = A' ∧ c = c' := fun he => by simp at he; exact he
  obtain ⟨A1, c1, he1, g1, _, g3, g4⟩ := HX
  obtain ⟨rfl, rfl⟩ := nil he1
  obtain ⟨A2, c2, he2, k1, _, k3, k4⟩ := HY
  obtain ⟨rfl, rfl⟩ := nil he2
  obtain ⟨ay, rfl⟩ : ∃ ay, A = some ay := by
    obtain ⟨ad, cs, h1, _⟩ := row_at k4 hy
    exact ⟨ad, h1⟩
  have rows : ∀ {zs : List α} {B : Option Addr} (bd : Addr), d.row W ok B zs → (zs = [] ∨ B = some bd) → ∃ news : List Value, news.length = zs.length * d.sz ∧ (∀ j u, news[j]? = some u → W.cell? (bd.add j) = some u) ∧ (∀ u ∈ news, u.oneCell' = true) ∧
      ∀ i x, zs[i]? = some x → d.M W ok x ((news.drop (i * d.sz)).take d.sz) := by
    intro zs B bd hr hB
    refine row_cells (W := W) (d := d) (ad := bd) (ys := zs) (okE := ok) (fun i y hy => ?_)
    obtain ⟨ad', cs, h1, _, h2, h3⟩ := hr i y hy
    rcases hB with rfl | rfl
    · simp at hy
    · cases h1
      exact ⟨cs, h2, h3⟩
  obtain ⟨news, hnl, hnc, hn1, hnM⟩ := rows ay k4 (.inr rfl)
  obtain ⟨bx, hbx⟩ : ∃ bx : Addr, xs = [] ∨ Ax = some bx := by
    cases Ax with
    | some b => exact ⟨b, .inr rfl⟩
    | none => exact ⟨⟨0, 0, none⟩, .inl (List.eq_nil_of_length_eq_zero (by have := g3 rfl; omega))⟩
  obtain ⟨olds, hol, hoc, ho1, hoM⟩ := rows bx g4 hbx
  have h63 : xs.length + ys.length ≤ maxLen := by
    have : xs.length + ys.length ≤ (xs.length + ys.length) * bytes := Nat.le_mul_of_pos_right _ hb0
    unfold maxLen
    omega
  have h47 : (xs ++ ys).length ≤ 140737488355328 := by
    have : xs.length + ys.length ≤ (xs.length + ys.length) * bytes := Nat.le_mul_of_pos_right _ hb0
    rw [List.length_append]
    omega
  refine wpList_append_grows W hgd s x t ho e i z d.sz bytes ht hi hz0 hz1 hz2 hz d.pos Ax xs.length cx olds hs (fun h0 => ⟨by have := g3 h0; omega, g3 h0⟩) hol (fun b hb j u hu => ?_) ay ys.length c news hx hnl hnc hn1 hfull h63 hl (fun v1 w1 hown hg => ?_)
  · rcases hbx with rfl | hbx
    · rw [List.length_nil, Nat.zero_mul] at hol
      rw [List.eq_nil_of_length_eq_zero hol] at hu
      simp at hu
    · rw [hb] at hbx
      cases hbx
      exact hoc j u hu
  · have hbel : Below W.heap.size W w1 := (Below.refl _ _).grown hg (Nat.le_refl _) (fun k hk => by cases hk)
    refine h v1 w1 ⟨h47, olds ++ news, by rw [List.length_append]; exact hown, fun i x hx => ?_⟩ hbel
    have hM : d.M W ok x (((olds ++ news).drop (i * d.sz)).take d.sz) := by
      by_cases hix : i < xs.length
      · have h0 : xs[i]? = some x := by rwa [List.getElem?_append_left hix] at hx
        have hle : i * d.sz + d.sz ≤ olds.length := by
          rw [hol, ← Nat.succ_mul]; exact Nat.mul_le_mul_right _ hix
        rw [List.drop_append_of_le_length (by omega), List.take_append_of_le_length (by rw [List.length_drop]; omega)]
        exact hoM i x h0
      · have h0 : ys[i - xs.length]? = some x := by rwa [List.getElem?_append_right (by omega)] at hx
        have hge : xs.length * d.sz ≤ i * d.sz := Nat.mul_le_mul_right _ (by omega)
        have : ((olds ++ news).drop (i * d.sz)).take d.sz = (news.drop ((i - xs.length) * d.sz)).take d.sz := by
          rw [List.drop_append, List.drop_of_length_le (by omega), List.nil_append, hol, Nat.sub_mul]
        rw [this]
        exact hnM _ x h0
    have hM2 : d.M w1 (fun k => ok k ∧ k < W.heap.size) x (((olds ++ news).drop (i * d.sz)).take d.sz) :=
      d.move (fun k hk hlt => hbel.block k hk.2) (d.mono (fun k hk hlt => ⟨hk, hlt⟩) hM)
    refine d.mono (fun k hk _ => ⟨hk.1, fun he => ?_⟩) hM2
    have := (hown.lt k he.symm).1
    omega

/-- A part of a slice: where it begins is told by one name. -/
theorem cut_run (d : Kd α) (t e : TypeId) (ht : P.underlying t = some (.slice e)) (hsz : P.cellsOf e = d.sz) (z : Value) (bytes : Nat) (hinfo : (P.info? e).map (fun i => (i.zero, i.size, i.bytes)) = some (some z, d.sz, bytes))
    (A : Option Addr) (n c : Nat) (lo hi : Nat) (h1 : lo ≤ hi) (h2 : hi ≤ n) (hc : n ≤ c) (h47 : n ≤ 140737488355328 ∧ c ≤ maxLen) (hA : A = none → c = 0) :
    ∃ A' : Option Addr, (∀ (kl kh : IntKind) (w : World), (Instr.slice t (.slice A n c) (some (.int kl (lo : Int))) (some (.int kh (hi : Int))) none).run P w = .ok (.slice A' (hi - lo) (c - lo)) w) ∧
      (∀ (kl : IntKind) (w : World), hi = n → (Instr.slice t (.slice A n c) (some (.int kl (lo : Int))) none none).run P w = .ok (.slice A' (hi - lo) (c - lo)) w) ∧
      (∀ (kh : IntKind) (w : World), lo = 0 → (Instr.slice t (.slice A n c) none (some (.int kh (hi : Int))) none).run P w = .ok (.slice A' (hi - lo) (c - lo)) w) ∧
      ∀ (w : World) (ok : Nat → Prop) (xs : List α), xs.length = n → d.row w ok A xs → d.sl.M w ok ((xs.take hi).drop lo) [.slice A' (hi - lo) (c - lo)] := by
  obtain ⟨i, hi', _, hz1, _⟩ := info_parts hinfo
  have hel : P.elem t = e := by simp [Program.elem, ht]
  have hu : P.underlying t = some (.slice (P.elem t)) := by rw [hel]; exact ht
  refine ⟨if c = lo then A else A.map (·.add (lo * d.sz)), fun kl kh w => ?_, fun kl w hn => ?_, fun kh w h0 => ?_, fun w ok xs hx hr => ?_⟩
  · rw [run_slice_lh w t A n c hu kl kh lo hi (by omega) (by omega) (by omega), hel]
    simp [sizeOf, typeInfo, hi', hz1, sliced, Result.andThen]
  · subst hn
    rw [run_slice_l w t A hi c hu kl lo (by omega) (by omega), hel]
    simp [sizeOf, typeInfo, hi', hz1, sliced, Result.andThen]
  · subst h0
    rw [run_slice_h w t A n c hu kh hi (by omega) (by omega), hel]
    simp [sizeOf, typeInfo, hi', hz1, sliced, Result.andThen]
  · have hlen : ((xs.take hi).drop lo).length = hi - lo := by simp; omega
    refine ⟨_, c - lo, by rw [hlen], by rw [hlen]; omega, ⟨by rw [hlen]; omega, by omega⟩, fun h => ?_, ?_⟩
    · split at h
      · omega
      · cases A with
        | none => have := hA rfl; omega
        | some b => cases h
    · split
      · have : (xs.take hi).drop lo = [] := List.eq_nil_of_length_eq_zero (by omega)
        rw [this]
        exact row_nil _ _ _ _
      · exact row_drop (row_take hr hi) lo
end more
end Kd

/-- A string of bytes. -/
def mkS (l : List UInt8) : ByteArray := ⟨l.toArray⟩
theorem mkS_size (l : List UInt8) : (mkS l).size = l.length := by simp [mkS, ByteArray.size]
theorem mkS_data (l : List UInt8) : (mkS l).data.toList = l := rfl
theorem byte_nums (l : List UInt8) : (l.map fun c => (c.toNat : Int)).map (fun n => UInt8.ofNat n.toNat) = l := by
  rw [List.map_map]
  conv => rhs; rw [← List.map_id l]
  apply List.map_congr_left
  intro c _
  simp
theorem conv_string {P : Program} {w : World} {src dst e : TypeId} {A : Option Addr} {c : Nat} {l : List UInt8} {ok : Nat → Prop} (hs : P.underlying src = some (.slice e)) (he : P.underlying e = some (.int .u8)) (hd : P.underlying dst = some .string)
    (h : byteK.row w ok A l) : (convert src dst (.slice A l.length c)).run P w = .ok (.string (mkS l)) w := by
  rcases A with _ | ad
  · obtain rfl : l = [] := by
      cases l with
      | nil => rfl
      | cons x l =>
        obtain ⟨ad, cs, h1, _⟩ := Kd.row_at h (i := 0) (by simp)
        cases h1
    exact run_convert_bytes_nil w src e hs he 0 c dst hd
  · have hl : (loadCells ad l.length).run P w = .ok ((l.map fun c => (c.toNat : Int)).map (Value.int .u8)).toArray w := by
      have := run_loadCells_list (P := P) w ad ((l.map fun c => (c.toNat : Int)).map (Value.int .u8)) (fun j v hj => by
        have hjl : j < l.length := by
          have := (List.getElem?_eq_some_iff.1 hj).1
          simpa using this
        obtain ⟨ad', cs, h1, h2, h3⟩ := Kd.row_at h hjl
        cases h1
        obtain rfl : cs = [.int .u8 (l[j].toNat : Int)] := h2
        have h4 := h3 0 _ rfl
        rw [List.getElem?_map, List.getElem?_map, List.getElem?_eq_getElem hjl] at hj
        simp at hj
        subst hj
        simpa [byteK, flat] using h4)
      simpa using this
    rw [run_convert_bytes_string w src dst e _ _ c hs he hd, run_bytesToString w ad _ c _ hl, foldl_push_bytes]
    rw [byte_nums]
    simp [mkS, ByteArray.empty, ByteArray.emptyWithCapacity]
    rfl

/-- Two values, one behind the other. -/
def pairK {α β : Type} (a : Kd α) (b : Kd β) : Kd (α × β) where
  sz := a.sz + b.sz
  pos := Nat.lt_of_lt_of_le a.pos (Nat.le_add_right _ _)
  M := fun w ok x cs => ∃ c1 c2, cs = c1 ++ c2 ∧ a.M w ok x.1 c1 ∧ b.M w ok x.2 c2
  len := fun ⟨c1, c2, h, h1, h2⟩ => by rw [h, List.length_append, a.len h1, b.len h2]
  one := fun ⟨c1, c2, h, h1, h2⟩ u hu => by
    rw [h] at hu
    rcases List.mem_append.1 hu with hu | hu
    · exact a.one h1 u hu
    · exact b.one h2 u hu
  mono := fun hok ⟨c1, c2, h, h1, h2⟩ => ⟨c1, c2, h, a.mono hok h1, b.mono hok h2⟩
  move := fun hm ⟨c1, c2, h, h1, h2⟩ => ⟨c1, c2, h, a.move hm h1, b.move hm h2⟩
end Go.Proofs.YtnplommdgfgboaaGreatDoor.B
/-
  How data that came in is read as my kinds.
-/
set_option linter.unusedVariables false
set_option linter.unusedSimpArgs false
namespace Go.Proofs.YtnplommdgfgboaaGreatDoor.B
open Go.RowKit Go.ChangeShapes Go.WideShapes Go.Deep

/-- Whatever can be read at a type is a datum of the kind. -/
def Opens {α : Type} (P : Program) (d : Kd α) (t : TypeId) : Prop :=
  ∀ {H : Type} (enc : TypeId × Value → H) (w : World) (fuel : Nat) (cs : List Value) (x : DataW H × List MemPlace), DataW.trod enc P w 0 (fun _ => true) true fuel t cs = some x → (∀ n ∈ DataW.weights P t x.1, n ≤ reachBytes) → ∃ a, d.M w (fun _ => True) a cs
/-- The reach of one argument. -/
theorem weights_of {H : Type} {P : Program} {ts : List TypeId} {ds : List (DataW H)} (h : (DataW.weightsEach P ts ds).all (· ≤ reachBytes) = true) {j : Nat} {t : TypeId} {d : DataW H} (ht : ts[j]? = some t) (hd : ds[j]? = some d) :
    ∀ n ∈ DataW.weights P t d, n ≤ reachBytes := fun n hn => by
  have := List.all_eq_true.1 h n (DataW.weights_mem_each ht hd n hn)
  simpa using this
theorem weights_all {H : Type} {P : Program} {e : TypeId} : ∀ {ds : List (DataW H)} {d : DataW H}, d ∈ ds → ∀ n ∈ DataW.weights P e d, n ∈ DataW.weightsAll P e ds
  | d0 :: ds, d, hd, n, hn => by
    simp only [DataW.weightsAll, List.mem_append]
    rcases List.mem_cons.1 hd with rfl | hd
    · exact .inl hn
    · exact .inr (weights_all hd n hn)
  | [], _, hd, _, _ => by cases hd
namespace Opens
variable {P : Program} {t e : TypeId}
theorem u8_of {n : Int} (h : (Lit.int .u8 n).wf = true) : ∃ b : UInt8, n = (b.toNat : Int) := by
  simp [Lit.wf, IntKind.min, IntKind.max, IntKind.bits, IntKind.signed] at h
  refine ⟨UInt8.ofNat n.toNat, ?_⟩
  rw [UInt8.toNat_ofNat']
  omega
theorem i64_of {n : Int} (h : (Lit.int .i64 n).wf = true) : -9223372036854775808 ≤ n ∧ n ≤ 9223372036854775807 := by
  simp [Lit.wf, IntKind.min, IntKind.max, IntKind.bits, IntKind.signed] at h
  omega
theorem byte (ht : P.underlying t = some (.int .u8)) : Opens P byteK t := fun enc w fuel cs x h _ => by
  obtain ⟨n, rfl, _, hw⟩ := DataW.trod_int ht h
  obtain ⟨b, rfl⟩ := u8_of hw
  exact ⟨b, rfl⟩
theorem slice {α : Type} {d : Kd α} (ht : P.underlying t = some (.slice e)) (hc : P.cellsOf e = d.sz) (hby : 0 < P.bytesOf e) (he : Opens P d e) : Opens P d.sl t := fun enc w fuel cs x h hw => by
  rcases open_slice ht h with ⟨rfl, _⟩ | ⟨a, len, cap, m, n, D, Pl, rfl, _, hl, hm, hmm, hxx, hx⟩
  · exact ⟨[], none, 0, rfl, Nat.le_refl _, ⟨by simp, Nat.zero_le _⟩, fun _ => rfl, Kd.row_nil _ _ _ _⟩
  · rw [if_pos rfl] at hmm
    subst hxx
    simp only [DataW.weights, ht] at hw
    have hlen47 : len ≤ 140737488355328 := by
      have h1 := hw _ List.mem_cons_self
      simp only [List.length_map, List.length_range, reachBytes] at h1
      have h2 : len + (m - len) ≤ (len + (m - len)) * P.bytesOf e := Nat.le_mul_of_pos_right _ hby
      omega
    have hwe : ∀ i, i < len → ∀ n ∈ DataW.weights P e (D i), n ≤ reachBytes := fun i hi n hn =>
      hw n (List.mem_cons_of_mem _ (List.mem_append_left _ (weights_all (List.mem_map.2 ⟨i, List.mem_range.2 hi, rfl⟩) n hn)))
    have key : ∀ n' : Nat, n' ≤ len → ∃ xs : List α, xs.length = n' ∧ ∀ i x, xs[i]? = some x → ∃ cs, d.M w (fun _ => True) x cs ∧ ∀ j u, cs[j]? = some u → w.cell? (a.add (i * d.sz + j)) = some u := by
      intro n'
      induction n' with
      | zero => intro _; exact ⟨[], rfl, fun i x h => by simp at h⟩
      | succ n' ih =>
        intro hn
        obtain ⟨xs, hlx, hxs⟩ := ih (by omega)
        obtain ⟨cs', h1, h2⟩ := hx n' (by omega)
        obtain ⟨y, hy⟩ := he enc w n cs' _ h2 (hwe n' (by omega))
        refine ⟨xs ++ [y], by simp [hlx], fun i x hi => ?_⟩
        by_cases hlt : i < n'
        · rw [List.getElem?_append_left (by omega)] at hi
          exact hxs i x hi
        · rw [List.getElem?_append_right (by omega)] at hi
          have : i - xs.length = 0 := by
            have := (List.getElem?_eq_some_iff.1 hi).1
            simp at this
            omega
          rw [this] at hi
          simp at hi
          subst hi
          obtain rfl : i = n' := by omega
          refine ⟨cs', hy, fun j u hu => ?_⟩
          obtain ⟨_, hlen, hat⟩ := World.cells?_some h1
          have hj : j < P.cellsOf e := by
            have := (List.getElem?_eq_some_iff.1 hu).1
            omega
          have := hat j hj
          rw [hc, B.add_add] at this
          rw [this]
          exact hu
    obtain ⟨xs, hlx, hxs⟩ := key len (Nat.le_refl _)
    subst hlx
    exact ⟨xs, some a, cap, rfl, hl, ⟨hlen47, hm⟩, fun h => (by cases h), fun i x hi => by
      obtain ⟨cs, h1, h2⟩ := hxs i x hi
      exact ⟨a, cs, rfl, trivial, h1, h2⟩⟩
theorem int (ht : P.underlying t = some (.int .i64)) : Opens P intK t := fun enc w fuel cs x h _ => by
  obtain ⟨n, rfl, _, hw⟩ := DataW.trod_int ht h
  exact ⟨n, rfl, i64_of hw⟩
/-- A struct of a number and a row. -/
theorem two {α β : Type} {a : Kd α} {b : Kd β} {f0 f1 : Field} (ht : P.underlying t = some (.struct #[f0, f1])) (h0 : Opens P a f0.type) (h1 : Opens P b f1.type)
    (o0 : f0.offset = 0) (c0 : P.cellsOf f0.type = a.sz) (o1 : f1.offset = a.sz) (c1 : P.cellsOf f1.type = b.sz) (ct : P.cellsOf t = a.sz + b.sz) : Opens P (pairK a b) t := fun enc w fuel cs x h hw => by
  obtain ⟨y0, y1, n, rfl, hl, k0, k1⟩ := trod_struct2 ht h
  simp only [DataW.weights, ht] at hw
  have e : ([f0, f1] : List Field).map (·.type) = [f0.type, f1.type] := rfl
  rw [show (#[f0, f1] : Array Field).toList.map (·.type) = [f0.type, f1.type] from rfl] at hw
  simp only [DataW.weightsEach, List.append_nil] at hw
  rw [o0, c0, List.drop_zero] at k0
  rw [o1, c1] at k1
  obtain ⟨p, hp⟩ := h0 enc w n _ _ k0 (fun m hm => hw m (List.mem_append_left _ hm))
  obtain ⟨q, hq⟩ := h1 enc w n _ _ k1 (fun m hm => hw m (List.mem_append_right _ hm))
  refine ⟨(p, q), _, _, ?_, hp, hq⟩
  have e2 : (cs.drop a.sz).take b.sz = cs.drop a.sz := List.take_of_length_le (by rw [List.length_drop]; omega)
  rw [e2]
  exact (List.take_append_drop _ _).symm
end Opens
end Go.Proofs.YtnplommdgfgboaaGreatDoor.B
/-
  Words for readers: a struct of a string and a bool behind a pointer; strings as lists of bytes.
-/
set_option linter.unusedVariables false
set_option linter.unusedSimpArgs false
namespace Go.Proofs.YtnplommdgfgboaaGreatDoor.Rd
open Go.RowKit Go.Proofs.YtnplommdgfgboaaGreatDoor.B

theorem mkS_get (l : List UInt8) (k : Nat) (h : k < (mkS l).size) (h' : k < l.length) : (mkS l)[k] = l[k] := rfl
theorem mkS_toList (l : List UInt8) : (mkS l).toList = l := ByteArray.toList_mk l
theorem mkS_extract (l : List UInt8) (a b : Nat) : (mkS l).extract a b = mkS ((l.drop a).take (b - a)) := by
  apply ByteArray.ext
  apply Array.toList_inj.1
  exact Lib.extract_data (mkS l) a b
theorem mkS_append (a b : List UInt8) : mkS a ++ mkS b = mkS (a ++ b) := by
  apply ByteArray.ext
  rw [ByteArray.data_append]
  simp [mkS]
theorem mkS_lit (a : Array UInt8) : (⟨a⟩ : ByteArray) = mkS a.toList := by simp [mkS]
theorem mkS_inj {a b : List UInt8} (h : mkS a = mkS b) : a = b := by
  have := congrArg (fun x : ByteArray => x.data.toList) h
  exact this
theorem eq_mkS (s : ByteArray) : s = mkS s.data.toList := by cases s; simp [mkS]

theorem ret_i {k : IntKind} {a b : Int} (h : a = b) : Value.int k a = .int k b := by rw [h]
theorem ret_str {a b : ByteArray} (h : a = b) : Ending.returned (.string a) = .returned (.string b) := by rw [h]

/-- A reader lies at block rb: what is left, and whether it errs. -/
structure At (w : World) (rb : Nat) (s : List UInt8) (bad : Bool) : Prop where
  c0 : w.cell? ⟨rb, 0, none⟩ = some (.string (mkS s))
  c1 : w.cell? ⟨rb, 1, none⟩ = some (.bool bad)
  f0 : w.frozen? ⟨rb, 0, none⟩ = false
  f1 : w.frozen? ⟨rb, 1, none⟩ = false
  len : s.length ≤ 70368744177664

theorem At.lt {w : World} {rb : Nat} {s : List UInt8} {bad : Bool} (h : At w rb s bad) : rb < w.heap.size := World.block_lt_of_cell? w ⟨rb, 0, none⟩ h.c0
/-- A step of a reader: it alone of what was there is written. -/
structure Step (w w' : World) (rb : Nat) (s : List UInt8) (bad : Bool) : Prop where
  grown : w.grownBy w' (some rb)
  at' : At w' rb s bad
theorem Step.refl {w : World} {rb : Nat} {s : List UInt8} {bad : Bool} (h : At w rb s bad) : Step w w rb s bad := ⟨World.grownBy.refl _ _, h⟩
theorem Step.trans {a b c : World} {rb : Nat} {s t : List UInt8} {x y : Bool} (h : Step a b rb s x) (k : Step b c rb t y) : Step a c rb t y := ⟨h.grown.trans k.grown, k.at'⟩
theorem grown_setCell (w : World) (a : Addr) (u : Value) : w.grownBy (w.setCell a u) (some a.block) :=
  ⟨rfl, rfl, rfl, by simp, fun k hk hne => by
    have : k ≠ a.block := fun e => hne (by rw [e])
    simp [World.setCell, Array.getElem?_modify]
    intro e
    exact absurd e.symm this⟩
theorem At.set0 {w : World} {rb : Nat} {s t : List UInt8} {bad : Bool} (h : At w rb s bad) (ht : t.length ≤ 70368744177664) : At (w.setCell ⟨rb, 0, none⟩ (.string (mkS t))) rb t bad :=
  ⟨World.cell?_setCell_same _ _ _ h.c0, by rw [World.cell?_setCell_other _ _ _ _ (by simp)]; exact h.c1, by rw [World.frozen?_setCell]; exact h.f0, by rw [World.frozen?_setCell]; exact h.f1, ht⟩
theorem At.set1 {w : World} {rb : Nat} {s : List UInt8} {bad : Bool} (h : At w rb s bad) (b : Bool) : At (w.setCell ⟨rb, 1, none⟩ (.bool b)) rb s b :=
  ⟨by rw [World.cell?_setCell_other _ _ _ _ (by simp)]; exact h.c0, World.cell?_setCell_same _ _ _ h.c1, by rw [World.frozen?_setCell]; exact h.f0, by rw [World.frozen?_setCell]; exact h.f1, h.len⟩
theorem At.kept {w w1 : World} {rb : Nat} {s : List UInt8} {bad : Bool} (h : At w rb s bad) (hb : Below w.heap.size w w1) : At w1 rb s bad :=
  ⟨hb.cell (p := ⟨rb, 0, none⟩) h.lt |>.trans h.c0, hb.cell (p := ⟨rb, 1, none⟩) h.lt |>.trans h.c1, hb.frozen (p := ⟨rb, 0, none⟩) h.lt |>.trans h.f0, hb.frozen (p := ⟨rb, 1, none⟩) h.lt |>.trans h.f1, h.len⟩
theorem Step.set0 {w0 w : World} {rb : Nat} {s t : List UInt8} {bad : Bool} (h : Step w0 w rb s bad) (ht : t.length ≤ 70368744177664) : Step w0 (w.setCell ⟨rb, 0, none⟩ (.string (mkS t))) rb t bad :=
  ⟨h.grown.trans (grown_setCell _ _ _), h.at'.set0 ht⟩
theorem Step.set1 {w0 w : World} {rb : Nat} {s : List UInt8} {bad : Bool} (h : Step w0 w rb s bad) (b : Bool) : Step w0 (w.setCell ⟨rb, 1, none⟩ (.bool b)) rb s b :=
  ⟨h.grown.trans (grown_setCell _ _ _), h.at'.set1 b⟩
theorem Step.below {w0 w w1 : World} {rb : Nat} {s : List UInt8} {bad : Bool} (h : Step w0 w rb s bad) (hb : Below w.heap.size w w1) : Step w0 w1 rb s bad :=
  ⟨h.grown.trans ⟨hb.os, hb.tape, hb.output, hb.size, fun k hk _ => hb.block k hk⟩, h.at'.kept hb⟩
/-- Seen from below the reader. -/
theorem Step.seen {w0 w w' : World} {rb : Nat} {s : List UInt8} {bad : Bool} (h : Step w w' rb s bad) (hb : Below w0.heap.size w0 w) (hr : w0.heap.size ≤ rb) : Below w0.heap.size w0 w' :=
  ⟨h.grown.os.trans hb.os, h.grown.tape.trans hb.tape, h.grown.output.trans hb.output, Nat.le_trans hb.size h.grown.size, fun k hk => (h.grown.block k (Nat.lt_of_lt_of_le hk hb.size) (by simp; omega)).trans (hb.block k hk)⟩
theorem bcell {W w1 : World} (hb : Below W.heap.size W w1) : (∀ b o, b < W.heap.size → w1.cell? ⟨b, o, none⟩ = W.cell? ⟨b, o, none⟩) ∧ (∀ b o, b < W.heap.size → w1.frozen? ⟨b, o, none⟩ = W.frozen? ⟨b, o, none⟩) :=
  ⟨fun b o h => hb.cell (p := ⟨b, o, none⟩) h, fun b o h => hb.frozen (p := ⟨b, o, none⟩) h⟩
theorem gcell {W w1 : World} {rb : Nat} (hg : W.grownBy w1 (some rb)) : (∀ b o, b < W.heap.size → ¬ b = rb → w1.cell? ⟨b, o, none⟩ = W.cell? ⟨b, o, none⟩) ∧ (∀ b o, b < W.heap.size → ¬ b = rb → w1.frozen? ⟨b, o, none⟩ = W.frozen? ⟨b, o, none⟩) :=
  ⟨fun b o h hne => World.cell?_of_block (a := ⟨b, o, none⟩) (hg.block b h (by simp; exact hne)), fun b o h hne => World.frozen?_of_block (a := ⟨b, o, none⟩) (hg.block b h (by simp; exact hne))⟩
theorem Step.from {w0 w w' : World} {rb : Nat} {s : List UInt8} {bad : Bool} (hb : Below w0.heap.size w0 w) (h : Step w w' rb s bad) : Step w0 w' rb s bad :=
  ⟨⟨h.grown.os.trans hb.os, h.grown.tape.trans hb.tape, h.grown.output.trans hb.output, Nat.le_trans hb.size h.grown.size, fun k hk hne => (h.grown.block k (Nat.lt_of_lt_of_le hk hb.size) hne).trans (hb.block k hk)⟩, h.at'⟩
theorem Step.other {w0 w : World} {rb g j : Nat} {s : List UInt8} {bad : Bool} (h : Step w0 w rb s bad) (hg : w0.heap.size ≤ g) (hne : g ≠ rb) (u : Value) : Step w0 (w.setCell ⟨g, j, none⟩ u) rb s bad :=
  ⟨⟨h.grown.os, h.grown.tape, h.grown.output, by rw [World.size_setCell]; exact h.grown.size, fun k hk hn => by
      have hkg : k ≠ g := by omega
      rw [← h.grown.block k hk hn]
      simp [World.setCell, Array.getElem?_modify]
      intro e
      exact absurd e.symm hkg⟩,
    ⟨by rw [World.cell?_setCell_other _ _ _ _ (by simp; try (intro e; exact absurd e hne))]; exact h.at'.c0, by rw [World.cell?_setCell_other _ _ _ _ (by simp; try (intro e; exact absurd e hne))]; exact h.at'.c1,
      by rw [World.frozen?_setCell]; exact h.at'.f0, by rw [World.frozen?_setCell]; exact h.at'.f1, h.at'.len⟩⟩
theorem Step.alloc {w0 w : World} {rb : Nat} {s : List UInt8} {bad : Bool} (h : Step w0 w rb s bad) (o : Obj) : Step w0 (w.alloc o) rb s bad :=
  h.below ((Below.refl _ _).alloc (Nat.le_refl _) o)
theorem mkS_nil : mkS [] = ⟨#[]⟩ := rfl
theorem drop1 (r : List UInt8) : (mkS r).extract 1 r.length = mkS (r.drop 1) := by rw [mkS_extract, List.take_of_length_le (by simp)]
theorem drop2 (r : List UInt8) : (mkS r).extract 2 r.length = mkS (r.drop 2) := by rw [mkS_extract, List.take_of_length_le (by simp)]
theorem drop3 (r : List UInt8) : (mkS r).extract 3 r.length = mkS (r.drop 3) := by rw [mkS_extract, List.take_of_length_le (by simp)]
theorem prefix_len (p r : List UInt8) (h : p.isPrefixOf r = true) : p.length ≤ r.length := by
  rw [List.isPrefixOf_iff_prefix] at h
  exact h.length_le
theorem Step.drew {w0 w : World} {rb : Nat} {s : List UInt8} {bad : Bool} (h : Step w0 w rb s bad) : Step w0 w.drew rb s bad :=
  ⟨⟨h.grown.os, h.grown.tape, h.grown.output, h.grown.size, h.grown.block⟩, ⟨h.at'.c0, h.at'.c1, h.at'.f0, h.at'.f1, h.at'.len⟩⟩
theorem drops (l : List UInt8) (k : Nat) : (mkS l).extract k l.length = mkS (l.drop k) := by rw [mkS_extract, List.take_of_length_le (by simp)]
theorem Step.belowB {w0 w w1 : World} {rb : Nat} {s : List UInt8} {bad : Bool} (h : Step w0 w rb s bad) (hb : Below w0.heap.size w w1) (hr : rb < w0.heap.size) : Step w0 w1 rb s bad :=
  ⟨⟨hb.os.trans h.grown.os, hb.tape.trans h.grown.tape, hb.output.trans h.grown.output, Nat.le_trans h.grown.size hb.size, fun k hk hne => (hb.block k hk).trans (h.grown.block k hk hne)⟩,
    ⟨hb.cell (p := ⟨rb, 0, none⟩) hr |>.trans h.at'.c0, hb.cell (p := ⟨rb, 1, none⟩) hr |>.trans h.at'.c1, hb.frozen (p := ⟨rb, 0, none⟩) hr |>.trans h.at'.f0, hb.frozen (p := ⟨rb, 1, none⟩) hr |>.trans h.at'.f1, h.at'.len⟩⟩
end Go.Proofs.YtnplommdgfgboaaGreatDoor.Rd
/-
  Valid UTF-8, a rune at a time: an ASCII byte, or a chunk of bytes that are all beyond ASCII.
-/
namespace Go.Proofs.YtnplommdgfgboaaGreatDoor.Utf
open Go.Lib

/-- One rune ahead of valid text. -/
structure Chunk (l ch t : List UInt8) (c : Nat) : Prop where
  eq : l = ch ++ t
  dec : decodeL l = (c, ch.length)
  ge : 128 ≤ c
  le : c ≤ 1114111
  high : ∀ b ∈ ch, 128 ≤ b.toNat
  two : 2 ≤ ch.length
  four : ch.length ≤ 4
  enc : encodeRune (c : Int) = ch
  rlen : runeLen (c : Int) = (ch.length : Int)
  valid : Lib.validRune (c : Int) = true
  rest : validD t = true

theorem len_take (l : List UInt8) (k : Nat) (h : k ≤ l.length) : (l.take k).length = k := by simp; omega
theorem step (l : List UInt8) (hne : l ≠ []) (hv : validD l = true) :
    (∃ b t, l = b :: t ∧ b.toNat < 128 ∧ decodeL l = (b.toNat, 1) ∧ validD t = true) ∨ ∃ ch t c, Chunk l ch t c := by
  have hs := validD_step l hne
  rw [hv] at hs
  have hbad : ¬ ((decodeL l).1 = 65533 ∧ (decodeL l).2 = 1) := fun h => by rw [if_pos h] at hs; cases hs
  rw [if_neg hbad] at hs
  have hl : 0 < l.length := List.length_pos_iff.2 hne
  have henc := encode_decode l hne hbad
  have hle := decodeL_le l hne
  obtain ⟨b0, t0, rfl⟩ : ∃ b t, l = b :: t := by cases l with
    | nil => exact absurd rfl hne
    | cons b t => exact ⟨b, t, rfl⟩
  by_cases ha : b0.toNat < 128
  · left
    have hd := decodeL_ascii b0 t0 ha
    rw [hd] at hs
    exact ⟨b0, t0, rfl, ha, hd, hs.symm⟩
  · right
    have k0 := b0.toNat_lt
    have hN := decodeL_N (b0 :: t0)
    have hN' := hN
    rw [List.getD_cons_zero] at hN'
    have sh := decodeN_shape (b0 :: t0).length b0.toNat ((b0 :: t0).getD 1 0).toNat ((b0 :: t0).getD 2 0).toNat ((b0 :: t0).getD 3 0).toNat
    rw [← hN'] at sh
    generalize hD : decodeL (b0 :: t0) = D at *
    obtain ⟨c, k⟩ := D
    dsimp only at *
    have key : 128 ≤ c ∧ c ≤ 1114111 ∧ 2 ≤ k ∧ k ≤ 4 ∧ (∀ b ∈ (b0 :: t0).take k, 128 ≤ b.toNat) ∧ runeLen (c : Int) = (k : Int) ∧ Lib.validRune (c : Int) = true := by
      rcases sh with ⟨c1, e⟩ | ⟨c1, c2, c3, cv, e⟩ | ⟨c1, c2, c3, c4, cv, cs, e⟩ | ⟨c1, c2, c3, c4, c5, cv, cw, e⟩ | e
      · omega
      · simp only [Prod.mk.injEq] at e
        obtain ⟨e1, rfl⟩ := e
        refine ⟨by omega, by omega, by omega, by omega, ?_, ?_, ?_⟩
        · rw [takeB _ c2]
          intro b hb
          simp only [List.mem_cons, List.not_mem_nil, or_false] at hb
          rcases hb with rfl | rfl
          · omega
          · omega
        · unfold runeLen; repeat' split
          all_goals omega
        · unfold Lib.validRune; rw [decide_eq_true_iff]; omega
      · simp only [Prod.mk.injEq] at e
        obtain ⟨e1, rfl⟩ := e
        refine ⟨by omega, by omega, by omega, by omega, ?_, ?_, ?_⟩
        · rw [takeC _ c2]
          intro b hb
          simp only [List.mem_cons, List.not_mem_nil, or_false] at hb
          rcases hb with rfl | rfl | rfl
          · omega
          · omega
          · omega
        · unfold runeLen; repeat' split
          all_goals omega
        · unfold Lib.validRune; rw [decide_eq_true_iff]; omega
      · simp only [Prod.mk.injEq] at e
        obtain ⟨e1, rfl⟩ := e
        refine ⟨by omega, by omega, by omega, by omega, ?_, ?_, ?_⟩
        · rw [takeD _ c2]
          intro b hb
          simp only [List.mem_cons, List.not_mem_nil, or_false] at hb
          rcases hb with rfl | rfl | rfl | rfl
          · omega
          · omega
          · omega
          · omega
        · unfold runeLen; repeat' split
          all_goals omega
        · unfold Lib.validRune; rw [decide_eq_true_iff]; omega
      · simp only [Prod.mk.injEq] at e
        exact absurd e hbad
    obtain ⟨p1, p2, p3, p4, p5, p6, p7⟩ := key
    have hlk := len_take (b0 :: t0) k hle
    exact ⟨(b0 :: t0).take k, (b0 :: t0).drop k, c, (List.take_append_drop _ _).symm, by rw [hD, hlk], p1, p2, p5, by omega, by omega, henc, by rw [hlk]; exact p6, p7, hs.symm⟩
end Go.Proofs.YtnplommdgfgboaaGreatDoor.Utf
/-
  Terms, plain: which may be, how one is shown, how two stand to one another.
-/
namespace Go.Proofs.YtnplommdgfgboaaGreatDoor.TermPure
open Go.Lib Go.Proofs.YtnplommdgfgboaaGreatDoor.Utf

/-- A term: its kind, its text, what else. -/
structure Term where
  kind : Int
  text : List UInt8
  extra : List UInt8
deriving DecidableEq

/-- Text as runes. -/
def runesGo : Nat → List UInt8 → List Nat
  | 0, _ => []
  | n + 1, l => if l = [] then [] else (decodeL l).1 :: runesGo n (l.drop (decodeL l).2)
def runes (l : List UInt8) : List Nat := runesGo l.length l
theorem runesGo_nil : ∀ n, runesGo n [] = []
  | 0 => rfl
  | n + 1 => by rw [runesGo, if_pos rfl]
theorem runesGo_fuel : ∀ (n m : Nat) (l : List UInt8), l.length ≤ n → l.length ≤ m → runesGo n l = runesGo m l
  | 0, m, l, hn, _ => by
    have : l = [] := List.eq_nil_of_length_eq_zero (by omega)
    subst this
    rw [runesGo_nil, runesGo_nil]
  | n + 1, 0, l, _, hm => by
    have : l = [] := List.eq_nil_of_length_eq_zero (by omega)
    subst this
    rw [runesGo_nil, runesGo_nil]
  | n + 1, m + 1, l, hn, hm => by
    by_cases hne : l = []
    · subst hne; rw [runesGo_nil, runesGo_nil]
    · have hw := decodeL_width l
      have hl : 0 < l.length := List.length_pos_iff.2 hne
      rw [runesGo, runesGo, if_neg hne, if_neg hne, runesGo_fuel n m _ (by rw [List.length_drop]; omega) (by rw [List.length_drop]; omega)]
theorem runes_nil : runes [] = [] := rfl
theorem runes_step (l : List UInt8) (hne : l ≠ []) : runes l = (decodeL l).1 :: runes (l.drop (decodeL l).2) := by
  have hw := decodeL_width l
  have hl : 0 < l.length := List.length_pos_iff.2 hne
  obtain ⟨n, hn⟩ : ∃ n, l.length = n + 1 := ⟨l.length - 1, by omega⟩
  unfold runes
  rw [hn, runesGo, if_neg hne, runesGo_fuel n (l.drop (decodeL l).2).length _ (by rw [List.length_drop]; omega) (Nat.le_refl _)]
theorem runes_ascii (b : UInt8) (t : List UInt8) (h : b.toNat < 128) : runes (b :: t) = b.toNat :: runes t := by
  rw [runes_step _ (by simp), decodeL_ascii b t h]
  rfl
theorem runes_chunk {l ch t : List UInt8} {c : Nat} (h : Chunk l ch t c) : runes l = c :: runes t := by
  have hne : l ≠ [] := by
    intro e
    have h1 := h.eq
    have h2 := h.two
    rw [e] at h1
    have := congrArg List.length h1
    rw [List.length_append] at this
    simp at this
    omega
  rw [runes_step l hne, h.dec]
  dsimp only
  rw [h.eq, List.drop_left]

/-- Signs that no IRI has. -/
def odd : List Nat := [34, 60, 62, 92, 94, 96, 123, 124, 125]
def iriRune (r : Nat) : Bool := (decide (32 < r) && decide (r < 127) && !odd.contains r) || decide (160 ≤ r)
def isIRI (s : List UInt8) : Bool := decide (s ≠ []) && (decide (s.length ≤ 60) && (validD s && (runes s).all iriRune))
def alnum (r : Nat) : Bool := (decide (97 ≤ r) && decide (r ≤ 122)) || (decide (65 ≤ r) && decide (r ≤ 90)) || (decide (48 ≤ r) && decide (r ≤ 57))
def isLabel (s : List UInt8) : Bool := decide (s ≠ []) && (decide (s.length ≤ 8) && s.all fun b => alnum b.toNat)
/-- A language: parts of small letters, and behind the first of digits too, each of one byte to eight. -/
def langGo : Bool → Nat → List UInt8 → Bool
  | _, n, [] => decide (0 < n)
  | later, n, b :: l =>
    if b = 45 then decide (0 < n) && langGo true 0 l
    else if (decide (97 ≤ b.toNat) && decide (b.toNat ≤ 122)) || (later && (decide (48 ≤ b.toNat) && decide (b.toNat ≤ 57))) then decide (n < 8) && langGo later (n + 1) l
    else false
def isLang (s : List UInt8) : Bool := langGo false 0 s && decide (s.length ≤ 16)
def isText (s : List UInt8) : Bool := decide (s.length ≤ 30) && validD s
def is (t : Term) : Bool :=
  if t.kind = 1 then isIRI t.text && decide (t.extra = [])
  else if t.kind = 2 then isLabel t.text && decide (t.extra = [])
  else if t.kind = 3 then isText t.text && decide (t.extra = [])
  else if t.kind = 4 then isText t.text && isLang t.extra
  else if t.kind = 5 then isText t.text && isIRI t.extra
  else false

/-- A digit of hexadecimal. -/
def hexD (n : Nat) : UInt8 := UInt8.ofNat (if n < 10 then 48 + n else 55 + n)
/-- A byte as it stands in a literal. -/
def escB (b : UInt8) : List UInt8 :=
  if b = 34 then [92, 34] else if b = 92 then [92, 92] else if b = 10 then [92, 110] else if b = 13 then [92, 114] else if b = 9 then [92, 116] else if b = 8 then [92, 98] else if b = 12 then [92, 102]
  else if b.toNat < 32 ∨ b.toNat = 127 then [92, 117, 48, 48, hexD (b.toNat / 16), hexD (b.toNat % 16)] else [b]
def quoted (s : List UInt8) : List UInt8 := 34 :: (s.flatMap escB ++ [34])
def shown (t : Term) : List UInt8 :=
  if t.kind = 1 then 60 :: (t.text ++ [62])
  else if t.kind = 2 then 95 :: 58 :: t.text
  else if t.kind = 4 then quoted t.text ++ 64 :: t.extra
  else if t.kind = 5 then quoted t.text ++ (94 :: 94 :: 60 :: (t.extra ++ [62]))
  else quoted t.text
end Go.Proofs.YtnplommdgfgboaaGreatDoor.TermPure
/-
  Runes as bytes: what the model's own words are, in the library's.
-/
set_option linter.unusedVariables false
set_option linter.unusedSimpArgs false
namespace Go.Proofs.YtnplommdgfgboaaGreatDoor.Tx
open Go.RowKit Go.Lib Go.Proofs.YtnplommdgfgboaaGreatDoor.B Go.Proofs.YtnplommdgfgboaaGreatDoor.Rd Go.Proofs.YtnplommdgfgboaaGreatDoor.Utf Go.Proofs.YtnplommdgfgboaaGreatDoor.TermPure

theorem encode_eq (n : Nat) (hv : Lib.validRune (n : Int) = true) : Utf8.encode (n : Int) = mkS (encodeRune (n : Int)) := by
  unfold Lib.validRune at hv
  rw [decide_eq_true_iff] at hv
  have hval : Utf8.valid (n : Int) = true := by
    unfold Utf8.valid
    simp
    omega
  unfold Utf8.encode
  rw [hval]
  simp only [if_true, Int.toNat_natCast]
  by_cases h1 : n < 128
  · rw [if_pos h1, encodeRune, encodeRuneZ_one (by omega) (by omega)]
    rfl
  · rw [if_neg h1]
    by_cases h2 : n < 2048
    · rw [if_pos h2, encodeRune, encodeRuneZ_two (by omega) (by omega)]
      rfl
    · rw [if_neg h2]
      by_cases h3 : n < 65536
      · rw [if_pos h3, encodeRune, encodeRuneZ_three (by omega)]
        rfl
      · rw [if_neg h3, encodeRune]
        have : encodeRuneZ (n : Int) = [240 + (n : Int) / 262144, 128 + (n : Int) / 4096 % 64, 128 + (n : Int) / 64 % 64, 128 + (n : Int) % 64] := by
          unfold encodeRuneZ
          rw [if_neg (by omega), if_neg (by omega), if_neg (by omega), if_pos (by omega)]
        rw [this]
        rfl
theorem runesBytes_one (n : Nat) (hv : Lib.validRune (n : Int) = true) : runesBytes [(n : Int)] = mkS (encodeRune (n : Int)) := by
  show ByteArray.empty ++ Utf8.encode (n : Int) = _
  rw [encode_eq n hv, show ByteArray.empty = mkS [] from rfl, mkS_append]
  rfl
theorem runesFrom_eq (l : List UInt8) : ∀ (f i : Nat) (acc : Array Value), l.length ≤ i + f → Conv.runesFrom (mkS l) f i acc = acc ++ ((runesGo f (l.drop i)).map fun (c : Nat) => Value.int .i32 (c : Int)).toArray
  | 0, i, acc, h => by
    rw [show l.drop i = [] from List.drop_eq_nil_of_le (by omega)]
    simp [Conv.runesFrom, runesGo]
  | f + 1, i, acc, h => by
    have hd : decodeL (l.drop i) = Utf8.decode (mkS l) i := decodeL_drop (mkS l) i
    unfold Conv.runesFrom
    rw [mkS_size]
    by_cases hi : i < l.length
    · have hne : l.drop i ≠ [] := by
        intro h0
        have := congrArg List.length h0
        rw [List.length_drop] at this
        simp at this
        omega
      have hw := decodeL_width (l.drop i)
      rw [if_pos hi, ← hd, runesGo, if_neg hne]
      generalize decodeL (l.drop i) = D at *
      obtain ⟨c, k⟩ := D
      dsimp only at *
      rw [runesFrom_eq l f (i + k) _ (by omega), List.drop_drop]
      simp
    · rw [if_neg hi, show l.drop i = [] from List.drop_eq_nil_of_le (by omega), runesGo_nil]
      simp
theorem runesFrom_all (l : List UInt8) : Conv.runesFrom (mkS l) (mkS l).size 0 #[] = ((runes l).map fun (c : Nat) => Value.int .i32 (c : Int)).toArray := by
  rw [mkS_size, runesFrom_eq l _ 0 #[] (by omega)]
  simp [runes]
theorem runesGo_len : ∀ (f : Nat) (l : List UInt8), (runesGo f l).length ≤ l.length
  | 0, l => by simp [runesGo]
  | f + 1, l => by
    rw [runesGo]
    split
    · simp
    · rename_i h
      have hw := decodeL_width l
      have hl : 0 < l.length := List.length_pos_iff.2 h
      have := runesGo_len f (l.drop (decodeL l).2)
      rw [List.length_drop] at this
      simp
      omega
theorem runes_len (l : List UInt8) : (runes l).length ≤ l.length := runesGo_len _ _
theorem conv_rune (n : Nat) (hv : Lib.validRune (n : Int) = true) (W : World) :
    Sem.run Tryz.prog (convert 210 9 (.slice (some ⟨W.heap.size, 0, none⟩) 1 1)) (W.alloc (.cells #[.int .i32 (n : Int)] 21)) = .ok (.string (mkS (encodeRune (n : Int)))) (W.alloc (.cells #[.int .i32 (n : Int)] 21)) := by
  have h := run_convert_runes (P := Tryz.prog) (W.alloc (.cells #[.int .i32 (n : Int)] 21)) 210 9 21 ⟨W.heap.size, 0, none⟩ 1 1 [(n : Int)] (by simp) Tryz.underlying210 Tryz.underlying21 Tryz.underlying9
    (fun j hj => by
      obtain rfl : j = 0 := by simp at hj; exact hj
      rw [Addr.add_zero']
      unfold World.cell?; dsimp only; rw [Kd.heap_new]; rfl)
  rw [h]
  simp only [List.take_succ_cons, List.take_zero]
  rw [runesBytes_one n hv]
end Go.Proofs.YtnplommdgfgboaaGreatDoor.Tx
/-
  The Builder's contracts at this translation, out of ToLower's laying.
-/
namespace Go.Proofs.YtnplommdgfgboaaGreatDoor.SB
theorem lays240 : Go.Proofs.Lays.n240 Tryz.prog Tryz.lays159_ren := { Tryz.lays159 with }
theorem lays166 : Go.Proofs.Lays.n166 Tryz.prog Tryz.lays159_ren := { Tryz.lays159 with }
theorem lays167 : Go.Proofs.Lays.n167 Tryz.prog Tryz.lays159_ren := { Tryz.lays159 with }
theorem lays168 : Go.Proofs.Lays.n168 Tryz.prog Tryz.lays159_ren := { Tryz.lays159 with }
theorem lays169 : Go.Proofs.Lays.n169 Tryz.prog Tryz.lays159_ren := { Tryz.lays159 with }
end Go.Proofs.YtnplommdgfgboaaGreatDoor.SB
/-
  What lies in memory at the call's begin and stays; the library's contracts over lists of bytes.
-/
set_option linter.unusedVariables false
set_option linter.unusedSimpArgs false
namespace Go.Proofs.YtnplommdgfgboaaGreatDoor.Env
open Go.RowKit Go.Lib Go.Proofs.YtnplommdgfgboaaGreatDoor.B Go.Proofs.YtnplommdgfgboaaGreatDoor.Rd Go.Proofs.YtnplommdgfgboaaGreatDoor.Utf Go.Proofs.YtnplommdgfgboaaGreatDoor.TermPure Go.Proofs.YtnplommdgfgboaaGreatDoor.Tx

/-- The tables of unicode/utf8, and a number of the library's. -/
structure Env (w : World) : Prop where
  tabs : Lib.Utf8Tabs 0 1 w
  len : ∃ m, w.cell? ⟨2, 0, none⟩ = some (.int .i64 m)
theorem Env.below {w w' : World} (h : Env w) (hb : Below w.heap.size w w') : Env w' :=
  ⟨Utf8Tabs_below h.tabs hb, by
    obtain ⟨m, hm⟩ := h.len
    exact ⟨m, (hb.cell (p := ⟨2, 0, none⟩) (World.block_lt_of_cell? w _ hm)).trans hm⟩⟩
/-- All that the environment is lies below this block. -/
def lowB : Nat := (max (max 0 1) 2) + 1
theorem Env.low {w : World} (h : Env w) : lowB ≤ w.heap.size := by
  have h1 := World.block_lt_of_cell? w _ (h.tabs.1 0 (by decide))
  have h2 := World.block_lt_of_cell? w _ (h.tabs.2 0 (by decide)).1
  obtain ⟨m, hm⟩ := h.len
  have h3 := World.block_lt_of_cell? w _ hm
  dsimp only at h1 h2 h3
  unfold lowB
  omega
theorem Env.kept {w w' : World} (h : Env w) (hb : ∀ k, k < lowB → k < w.heap.size → w'.heap[k]? = w.heap[k]?) : Env w' := by
  have cl : ∀ {g o : Nat} {v : Value}, g < lowB → w.cell? ⟨g, o, none⟩ = some v → w'.cell? ⟨g, o, none⟩ = some v := fun {g o v} hg hc =>
    (World.cell?_of_block (a := ⟨g, o, none⟩) (hb g hg (World.block_lt_of_cell? w _ hc))).trans hc
  obtain ⟨m, hm⟩ := h.len
  exact ⟨⟨fun c hc => cl (by decide) (h.tabs.1 c hc), fun i hi => ⟨cl (by decide) (h.tabs.2 i hi).1, cl (by decide) (h.tabs.2 i hi).2⟩⟩, m, cl (by decide) hm⟩
theorem Env.grown {w w' : World} {rb : Nat} (h : Env w) (hg : w.grownBy w' (some rb)) (hr : lowB ≤ rb) : Env w' :=
  h.kept fun k h8 hk => hg.block k hk (by simp; omega)
theorem Env.step {w w' : World} {rb : Nat} {s : List UInt8} {bad : Bool} (h : Env w) (hs : Step w w' rb s bad) (hr : lowB ≤ rb) : Env w' := h.grown hs.grown hr

theorem Env.set {w : World} (h : Env w) {g j : Nat} (hg : lowB ≤ g) (u : Value) : Env (w.setCell ⟨g, j, none⟩ u) := h.grown (Rd.grown_setCell w ⟨g, j, none⟩ u) hg

theorem Env.belowB {w w' : World} {B : Nat} (h : Env w) (hb : Below B w w') (hl : lowB ≤ B) : Env w' := h.kept fun k hk _ => hb.block k (Nat.lt_of_lt_of_le hk hl)

/-! ### the library -/
theorem valid_calls (l : List UInt8) (hl : l.length ≤ 9223372036854775807) (w : World) (he : Env w) :
    Calls Tryz.prog 123 #[.string (mkS l)] w fun e w' => e = .returned (.bool (validD l)) ∧ Below w.heap.size w w' :=
  Any.utf8_ValidString Tryz.lays196 (mkS l) w (by rw [mkS_size]; exact hl) he.tabs
theorem decode_calls (l : List UInt8) (hl : l ≠ []) (w : World) (he : Env w) :
    Calls Tryz.prog 204 #[.string (mkS l)] w fun e w' => e = .returned (.tuple #[.int .i32 ((decodeL l).1 : Nat), .int .i64 ((decodeL l).2 : Nat)]) ∧ Below w.heap.size w w' := by
  refine (Tryz.utf8_DecodeRuneInString (mkS l) w he.tabs).mono ?_
  rintro e w' ⟨h1, h2⟩
  refine ⟨?_, h2⟩
  have hd : Lib.decodeGo (mkS l) = decodeL l := by
    unfold Lib.decodeGo
    rw [if_neg (by rw [mkS_size]; intro e; exact hl (List.eq_nil_of_length_eq_zero e))]
    exact (decodeL_drop (mkS l) 0).symm
  rw [h1, hd]
theorem cutPrefix_calls (s p : List UInt8) (w : World) :
    Calls Tryz.prog 206 #[.string (mkS s), .string (mkS p)] w fun e w' => e = .returned (.tuple #[.string (mkS (if p.isPrefixOf s then s.drop p.length else s)), .bool (p.isPrefixOf s)]) ∧ w = w' :=
  (Tryz.strings_CutPrefix (mkS s) (mkS p) w).mono fun e w' ⟨h1, h2⟩ => ⟨h1, h2.symm⟩
theorem asciiSet_info : (Tryz.prog.info? 241).map (fun i => (i.zero, i.size)) = some (some (.agg (Array.replicate 256 (.bool false))), 256) := by kernel_rfl
theorem trimLeft_calls (s c : List UInt8) (hc : c.length < 4294967281) (ha : ∀ b ∈ c, b.toNat < 128) (w : World) :
    Calls Tryz.prog 159 #[.string (mkS s), .string (mkS c)] w fun e w' => e = .returned (.string (mkS (s.dropWhile (c.contains ·)))) ∧ Below w.heap.size w w' :=
  Any.strings_TrimLeft_laid Tryz.lays161b asciiSet_info (mkS s) (mkS c) w (by rw [mkS_size]; exact hc) (fun j b hb => ha b (List.mem_of_getElem? hb))
theorem containsRune_calls (s : List UInt8) (n : Nat) (hn : n < 128) (w : World) :
    Calls Tryz.prog 232 #[.string (mkS s), .int .i32 (n : Int)] w fun e w' => e = .returned (.bool (s.contains (UInt8.ofNat n))) ∧ w = w' := by
  refine (Tryz.strings_ContainsRune_ascii (mkS s) n w (by omega) (by omega)).mono fun e w' ⟨h1, h2⟩ => ⟨?_, h2.symm⟩
  rw [h1]
  have key : ∀ (l : List UInt8) (c : UInt8), decide (0 ≤ indexByte l c) = l.contains c := by
    intro l c
    induction l with
    | nil => rfl
    | cons b l ih =>
      rw [List.contains_cons]
      unfold indexByte
      have hge := indexByte_ge l c
      by_cases hbc : b = c
      · subst hbc; simp
      · have hbc' : (c == b) = false := by rw [beq_eq_false_iff_ne]; exact fun e => hbc e.symm
        have hbc2 : (b == c) = false := by rw [beq_eq_false_iff_ne]; exact hbc
        rw [hbc', hbc2, Bool.false_or, ← ih]
        simp
        by_cases h1 : indexByte l c = -1
        · rw [h1]; decide
        · rw [if_neg h1]
          constructor
          · intro h; omega
          · intro h; omega
  rw [key]
  rfl
theorem idxFrom_any (p : Nat → Bool) (l : List UInt8) : ∀ (f i : Nat), l.length ≤ i + f → decide (0 ≤ idxFuncFrom p true (mkS l) f i) = (runesGo f (l.drop i)).any p
  | 0, i, h => by
    rw [show l.drop i = [] from List.drop_eq_nil_of_le (by omega)]
    rfl
  | f + 1, i, h => by
    unfold idxFuncFrom
    rw [mkS_size]
    by_cases hi : i < l.length
    · have hne : l.drop i ≠ [] := by
        intro h0
        have := congrArg List.length h0
        rw [List.length_drop] at this
        simp at this
        omega
      have hd : decodeL (l.drop i) = Utf8.decode (mkS l) i := decodeL_drop (mkS l) i
      have hw := decodeL_width (l.drop i)
      rw [if_pos hi, runesGo, if_neg hne, ← hd]
      generalize decodeL (l.drop i) = D at *
      obtain ⟨c, k⟩ := D
      dsimp only at *
      rw [List.any_cons, List.drop_drop, ← idxFrom_any p l f (i + k) (by omega)]
      cases p c with
      | true => simp
      | false => simp
    · rw [if_neg hi, show l.drop i = [] from List.drop_eq_nil_of_le (by omega), runesGo_nil]
      rfl
theorem contains_any (p : Nat → Bool) (l : List UInt8) : decide (0 ≤ Lib.idxFunc p true (mkS l)) = (runes l).any p := by
  unfold Lib.idxFunc
  rw [mkS_size, idxFrom_any p l _ 0 (by omega)]
  rfl
theorem trim_from (p : Nat → Bool) (hp : ∀ c, 128 ≤ c → p c = false) (l : List UInt8) : ∀ (f i : Nat), l.length ≤ i + f →
    (if idxFuncFrom p false (mkS l) f i = -1 then [] else l.drop (idxFuncFrom p false (mkS l) f i).toNat) = (l.drop i).dropWhile (fun b => p b.toNat)
  | 0, i, h => by
    rw [show l.drop i = [] from List.drop_eq_nil_of_le (by omega)]
    rfl
  | f + 1, i, h => by
    unfold idxFuncFrom
    rw [mkS_size]
    by_cases hi : i < l.length
    · have hd : decodeL (l.drop i) = Utf8.decode (mkS l) i := decodeL_drop (mkS l) i
      rw [if_pos hi, ← hd]
      have hc : l.drop i = l[i] :: l.drop (i + 1) := List.drop_eq_getElem_cons hi
      by_cases ha : l[i].toNat < 128
      · rw [hc, decodeL_ascii _ _ ha, List.dropWhile_cons]
        dsimp only
        cases hpc : p l[i].toNat with
        | false =>
          simp
        | true =>
          have := trim_from p hp l f (i + 1) (by omega)
          simp
          exact this
      · have h128 : 128 ≤ (decodeL (l.drop i)).1 := by
          rw [hd]
          exact (decode_high (mkS l) i (by rw [mkS_size]; exact hi) (by show 128 ≤ l[i].toNat; omega)).1
        rw [hp _ h128]
        rw [hc, List.dropWhile_cons, hp l[i].toNat (by omega)]
        simp
    · rw [if_neg hi, show l.drop i = [] from List.drop_eq_nil_of_le (by omega)]
      rfl
theorem trimF_eq (p : Nat → Bool) (hp : ∀ c, 128 ≤ c → p c = false) (l : List UInt8) : Lib.trimLeftF p (mkS l) = mkS (l.dropWhile (fun b => p b.toNat)) := by
  have h := trim_from p hp l l.length 0 (by omega)
  unfold Lib.trimLeftF Lib.idxFunc
  rw [mkS_size]
  rw [List.drop_zero] at h
  rw [← h]
  split
  · rfl
  · rw [mkS_extract, List.take_of_length_le (by simp)]
/-- '[]rune(s)'. -/
theorem runes_conv (s : List UInt8) (hs : s.length ≤ 70368744177664) (w : World) : ∃ (cap : Nat) (C : Array Value), (runes s).length ≤ cap ∧ cap ≤ maxLen ∧
    Sem.run Tryz.prog (convert 9 210 (.string (mkS s))) w = .ok (.slice (some ⟨w.heap.size, 0, none⟩) (runes s).length cap) (w.drew.alloc (.cells C 21)) ∧
    ∀ k (h : k < (runes s).length), C[k]? = some (.int .i32 ((runes s)[k] : Int)) := by
  have hsz : (Conv.runesFrom (mkS s) (mkS s).size 0 #[]).size = (runes s).length := by rw [runesFrom_all]; simp
  have hl := runes_len s
  have h := run_runes_of_string (P := Tryz.prog) w 9 210 21 (mkS s) Tryz.underlying9 Tryz.underlying210 Tryz.underlying21 (by rw [hsz]; omega)
  rw [hsz, runesFrom_all] at h
  refine ⟨grownCap w (runes s).length 0 21, _, grownCap_ge _ _ _ _, ?_, h, ?_⟩
  · exact grownCap_le_maxLen _ _ _ _ (by unfold maxLen; omega)
  · intro k hk
    rw [Array.getElem?_append_left (by simp; exact hk)]
    simp
    exact ⟨_, List.getElem?_eq_getElem hk, rfl⟩
/-- '[]byte(s)'. -/
theorem bytes_conv (s : List UInt8) (hs : s.length ≤ 70368744177664) (w : World) : ∃ (cap : Nat) (o : Obj), s.length ≤ cap ∧ cap ≤ maxLen ∧
    Sem.run Tryz.prog (convert 9 55 (.string (mkS s))) w = .ok (.slice (some ⟨w.heap.size, 0, none⟩) s.length cap) (w.drew.alloc o) ∧
    ∀ W : World, W.heap.size = w.heap.size → ∀ k (h : k < s.length), (W.alloc o).cell? ⟨w.heap.size, k, none⟩ = some (.int .u8 (s[k].toNat : Int)) ∧ (W.alloc o).frozen? ⟨w.heap.size, k, none⟩ = false := by
  have h := run_bytes_of_string (P := Tryz.prog) w 9 55 5 (mkS s) Tryz.underlying9 Tryz.underlying55 Tryz.underlying5
  rw [mkS_size] at h
  refine ⟨grownCap w s.length 0 5, _, grownCap_ge _ _ _ _, grownCap_le_maxLen _ _ _ _ (by unfold maxLen; omega), h, ?_⟩
  intro W hW k hk
  have hb := bytesRow_at (mkS s) (grownCap w s.length 0 5) k (by show k < s.toArray.size; simpa using hk)
  have hsz : k < (bytesRow (mkS s) (grownCap w s.length 0 5)).size := (Array.getElem?_eq_some_iff.1 hb).1
  constructor
  · unfold World.cell?
    dsimp only
    rw [← hW, Kd.heap_new]
    exact hb
  · unfold World.frozen?
    dsimp only
    rw [← hW, Kd.heap_new]
    simp
    omega
end Go.Proofs.YtnplommdgfgboaaGreatDoor.Env
/-
  What a row that lists Go's tables gives; a world that fits it.
-/
set_option linter.unusedVariables false
set_option linter.unusedSimpArgs false
namespace Go.Proofs.YtnplommdgfgboaaGreatDoor.Card
open Go.Lib Go.Proofs Go.Proofs.YtnplommdgfgboaaGreatDoor.Env

theorem laidMet_turn {P : Program} {w : World} {n1 n2 n3 : String} {d1 d2 d3 : DataW Unit} (h : laidMet P [(n1, d1), (n2, d2), (n3, d3)] w) : laidMet P [(n1, d1), (n3, d3), (n2, d2)] w := by
  obtain ⟨ps, hv, hn, hall⟩ := h
  obtain ⟨g1, t1, c1, f1, p1, q1, a1, a2, a3, a4, ⟨g2, t2, c2, f2, p2, q2, b1, b2, b3, b4, ⟨g3, t3, c3, f3, p3, q3, e1, e2, e3, e4, he, rfl⟩, rfl⟩, rfl⟩ := hv
  obtain rfl : q3 = [] := he
  simp only [List.append_nil] at hn hall
  refine ⟨_, ⟨g1, t1, c1, f1, p1, _, a1, a2, a3, a4, ⟨g3, t3, c3, f3, p3, _, e1, e2, e3, e4, ⟨g2, t2, c2, f2, p2, [], b1, b2, b3, b4, rfl, rfl⟩, rfl⟩, rfl⟩, ?_, ?_⟩
  · simp only [List.append_nil]
    refine (List.Perm.nodup_iff ?_).1 hn
    first
      | exact List.Perm.append_left _ List.perm_append_comm
      | (simp only [List.append_assoc]; refine List.Perm.append_left _ ?_; simp only [← List.append_assoc]; refine (List.Perm.append_right _ List.perm_append_comm).trans ?_; simp)
      | (simp only [← List.append_assoc]; exact List.Perm.append_left _ List.perm_append_comm)
      | skip
  · intro b off hb
    refine hall b off ?_
    simp only [List.append_nil, List.mem_append] at hb ⊢
    rcases hb with h | h
    · first | exact .inl h | (rcases h with h | h <;> simp [h])
    · first | (rcases h with h | h <;> simp [h]) | simp [h]

/-- The listed variables, by the given names. -/
def laidG : List (String × DataW Unit) := [("unicode/utf8.acceptRanges", Rows.laid_unicode_utf8_acceptRanges), ("unicode.CaseRanges", Rows.laid_unicode_CaseRanges), ("unicode/utf8.first", Rows.laid_unicode_utf8_first)]
def laid3 : List (String × DataW Unit) := [("unicode/utf8.acceptRanges", Lib.acceptData), ("unicode.CaseRanges", Lib.caseData), ("unicode/utf8.first", Lib.firstData)]
theorem accept_eq : (Rows.laid_unicode_utf8_acceptRanges : DataW Unit) = Lib.acceptData := by kernel_rfl
theorem laid_eq : laidG = laid3 := by
  unfold laidG laid3 Rows.laid_unicode_CaseRanges Rows.laid_unicode_utf8_first
  rw [accept_eq, Pinned.caseRanges_eq, Pinned.utf8First_eq]
theorem u8 : U8Extra Tryz.prog Tryz.lays159_ren := ⟨by kernel_rfl, by kernel_rfl, by kernel_rfl, by kernel_rfl, by kernel_rfl, by kernel_rfl, by kernel_rfl⟩
theorem case' : CaseExtra Tryz.prog Tryz.lays159_ren := ⟨by kernel_rfl, by kernel_rfl, by kernel_rfl, by kernel_rfl, by kernel_rfl, by kernel_rfl⟩
theorem env_of {W : World} (h : laidMet Tryz.prog laidG W) (hsh : W.ShapedOpen Tryz.prog) : Env W := by
  rw [laid_eq] at h
  exact ⟨utf8Tabs_of_reads { Tryz.lays159 with } u8 (Lib.laidMet.reads h (.tail _ (.tail _ (.head _)))) (Lib.laidMet.reads h (.head _)), Tryz.laysM219.s1_3 W hsh⟩
/-- The settled world with one block more; the three variables hold what their initialisers lay. -/
noncomputable def laidWorld (os : Os) : World :=
  let N := (World.settled Tryz.prog os).heap.size
  let w0 := World.holding Tryz.prog os ⟨#[.cells Lib.caseCells5 (Tryz.lays159_ren.t 208)], #[], []⟩
  let put (h : Array Obj) (g : Nat) (cs : Array Value) : Array Obj := h.modify g fun
    | .cells _ t frozen => .cells cs t frozen
    | o => o
  let h2 := put w0.heap (Tryz.lays159_ren.g 3) (Lib.firstTab.map fun z => Value.int .u8 z).toArray
  let h3 := put h2 (Tryz.lays159_ren.g 4) ((List.range 16).flatMap fun i => [Value.int .u8 (Lib.accLo i), Value.int .u8 (Lib.accHi i)]).toArray
  let h5 := put h3 (Tryz.lays159_ren.g 13) #[.slice (some ⟨N, 0, none⟩) 336 336]
  { w0 with heap := h5 }
theorem laid_met3 (os : Os) (args : Array Value) : laidMet Tryz.prog [("unicode/utf8.acceptRanges", Lib.acceptData), ("unicode/utf8.first", Lib.firstData), ("unicode.CaseRanges", Lib.caseData)] ((laidWorld os).forCall (fun _ _ => 0) ⟨#[], args, []⟩).memory :=
  laidMet_with_case (ρ := Tryz.lays159_ren) { Tryz.lays159 with } Tryz.lays159.t206 case'
    (l := [("unicode/utf8.acceptRanges", Lib.acceptData), ("unicode/utf8.first", Lib.firstData)])
    10 (by kernel_rfl) (by kernel_rfl) (by kernel_rfl) ((World.settled Tryz.prog default).heap.size) (Tryz.lays159_ren.t 208) (of_decide_eq_true (by kernel_rfl)) (by kernel_rfl) (by kernel_rfl) (by kernel_rfl)
theorem laid_met (os : Os) (args : Array Value) : laidMet Tryz.prog laidG ((laidWorld os).forCall (fun _ _ => 0) ⟨#[], args, []⟩).memory := by
  rw [laid_eq]
  exact laidMet_turn (laid_met3 os args)
end Go.Proofs.YtnplommdgfgboaaGreatDoor.Card
/-
  A strings.Builder of the call's own, over lists of bytes.
-/
set_option linter.unusedVariables false
set_option linter.unusedSimpArgs false
namespace Go.Proofs.YtnplommdgfgboaaGreatDoor.Bld
open Go.RowKit Go.Lib Go.Proofs.YtnplommdgfgboaaGreatDoor.B Go.Proofs.YtnplommdgfgboaaGreatDoor.Rd Go.Proofs.YtnplommdgfgboaaGreatDoor.Env

/-- A builder at block b holds bytes; its memory lies from block B on. -/
def Bld (B b : Nat) (out : List UInt8) (w : World) : Prop := Lib.IsBuilderF 161 5 B b (Lib.byteCells out) w
theorem BldAt.moved {T e : TypeId} {B b : Nat} {p : Value} {bs : List Value} {w w' : World} (h : Lib.BuilderAtF T e B b p bs w) (hm : ∀ k, B ≤ k → k < w.heap.size → w'.heap[k]? = w.heap[k]?) : Lib.BuilderAtF T e B b p bs w' := by
  obtain ⟨hB, v, hb, hown, hne⟩ := h
  have lt : ∀ {k : Nat} {o : Obj}, w.heap[k]? = some o → k < w.heap.size := fun h => (Array.getElem?_eq_some_iff.1 h).1
  refine ⟨hB, v, (hm b hB (lt hb)).trans hb, ⟨hown.1, ?_⟩, hne⟩
  rcases hown.2 with hn | ⟨g, cap, cur, fz, hv, hbg, hg, rest⟩
  · exact .inl hn
  · exact .inr ⟨g, cap, cur, fz, hv, hbg, (hm g hbg (lt hg)).trans hg, rest⟩
theorem Bld.moved {B b : Nat} {out : List UInt8} {w w' : World} (h : Bld B b out w) (hm : ∀ k, B ≤ k → k < w.heap.size → w'.heap[k]? = w.heap[k]?) : Bld B b out w' :=
  h.elim (fun x => .inl (BldAt.moved x hm)) (fun x => .inr (BldAt.moved x hm))
theorem Bld.below {B b : Nat} {out : List UInt8} {w w' : World} (h : Bld B b out w) (hb : Below w.heap.size w w') : Bld B b out w' := h.moved fun k _ hk => hb.block k hk
theorem Bld.grown {B b rb : Nat} {out : List UInt8} {w w' : World} (h : Bld B b out w) (hg : w.grownBy w' (some rb)) (hr : rb < B) : Bld B b out w' := h.moved fun k h1 hk => hg.block k hk (by simp; omega)
theorem Bld.lt {B b : Nat} {out : List UInt8} {w : World} (h : Bld B b out w) : B ≤ b ∧ b < w.heap.size := by
  rcases h with ⟨hB, v, hb, _⟩ | ⟨hB, v, hb, _⟩
  · exact ⟨hB, (Array.getElem?_eq_some_iff.1 hb).1⟩
  · exact ⟨hB, (Array.getElem?_eq_some_iff.1 hb).1⟩
theorem Bld.new (w : World) : Bld w.heap.size w.heap.size [] (w.alloc (.cells #[.pointer none, .slice none 0 0] 161)) :=
  .inl ⟨Nat.le_refl _, .slice none 0 0, Kd.heap_new _ _, World.ownsRowF_nil _ _ _ _, by simp [Value.ownBlock]⟩
theorem runeCells_eq (r : Int) : Lib.runeCells r = Lib.byteCells (encodeRune r) := by
  unfold Lib.runeCells Lib.byteCells encodeRune
  rw [List.map_map]
  apply List.map_congr_left
  intro x hx
  have := encodeRuneZ_byte r x hx
  show Value.int .u8 x = .int .u8 ((x.toNat.toUInt8).toNat : Int)
  congr 1
  rw [UInt8.toNat_ofNat']
  omega
theorem byteCells_append (a b : List UInt8) : Lib.byteCells a ++ Lib.byteCells b = Lib.byteCells (a ++ b) := by simp [Lib.byteCells]
theorem byteCells_len (a : List UInt8) : (Lib.byteCells a).length = a.length := by simp [Lib.byteCells]
theorem writeRune_calls (B b : Nat) (out : List UInt8) (r : Nat) (hr : r ≤ 2147483647) (w : World) (h : Bld B b out w) (hl : out.length + 4 ≤ 140737488355328) (hB : B ≤ w.heap.size) :
    Calls Tryz.prog 236 #[.pointer (some ⟨b, 0, none⟩), .int .i32 (r : Int)] w fun e w' => (∃ v, e = .returned v) ∧ Bld B b (out ++ encodeRune (r : Int)) w' ∧ Below B w w' := by
  refine (Any.Builder_WriteRune_k SB.lays168 Tryz.Builder_Extra_159 B b (Lib.byteCells out) (r : Int) (by omega) (by omega) w h (by rw [byteCells_len]; exact hl) hB).mono ?_
  rintro e w' ⟨h1, h2, h3, _⟩
  refine ⟨⟨_, h1⟩, .inr ?_, h3⟩
  rw [runeCells_eq, byteCells_append] at h2
  exact h2
theorem writeByte_calls (B b : Nat) (out : List UInt8) (c : UInt8) (w : World) (h : Bld B b out w) (hl : out.length + 1 ≤ 140737488355328) (hB : B ≤ w.heap.size) :
    Calls Tryz.prog 141 #[.pointer (some ⟨b, 0, none⟩), .int .u8 (c.toNat : Int)] w fun e w' => (∃ v, e = .returned v) ∧ Bld B b (out ++ [c]) w' ∧ Below B w w' := by
  refine (Any.Builder_WriteByte_k SB.lays167 Tryz.Builder_Extra_159 B b (Lib.byteCells out) (c.toNat : Int) w h (by rw [byteCells_len]; exact hl) hB).mono ?_
  rintro e w' ⟨h1, h2, h3, _⟩
  refine ⟨⟨_, h1⟩, .inr ?_, h3⟩
  rw [show [Value.int .u8 (c.toNat : Int)] = Lib.byteCells [c] from rfl, byteCells_append] at h2
  exact h2
theorem strCells_eq (l : List UInt8) : Lib.strCells (mkS l) = Lib.byteCells l := by
  unfold Lib.strCells Lib.byteCells
  rfl
theorem writeString_calls (B b : Nat) (out l : List UInt8) (w : World) (h : Bld B b out w) (hl : out.length + l.length ≤ 140737488355328) (hB : B ≤ w.heap.size) :
    Calls Tryz.prog 106 #[.pointer (some ⟨b, 0, none⟩), .string (mkS l)] w fun e w' => (∃ v, e = .returned v) ∧ Bld B b (out ++ l) w' ∧ Below B w w' := by
  refine (Any.Builder_WriteString_k SB.lays166 Tryz.Builder_Extra_159 B b (Lib.byteCells out) (mkS l) w h (by rw [byteCells_len, mkS_size]; exact hl) hB).mono ?_
  rintro e w' ⟨h1, h2, h3, _⟩
  refine ⟨⟨_, h1⟩, .inr ?_, h3⟩
  rw [strCells_eq, byteCells_append] at h2
  exact h2
theorem string_calls (B b : Nat) (out : List UInt8) (w : World) (h : Bld B b out w) (hB : B ≤ w.heap.size) :
    Calls Tryz.prog 107 #[.pointer (some ⟨b, 0, none⟩)] w fun e w' => e = .returned (.string (mkS out)) ∧ Bld B b out w' ∧ Below B w w' :=
  (Any.Builder_String_any_k SB.lays169 Tryz.Builder_Extra_159 B b out w h hB).mono fun e w' ⟨h1, h2, h3, _⟩ => ⟨h1, h2, h3⟩
end Go.Proofs.YtnplommdgfgboaaGreatDoor.Bld
/-
  A line's triple, plain, by bytes.
-/
namespace Go.Proofs.YtnplommdgfgboaaGreatDoor.LinesPure
open Go.Lib Go.Proofs.YtnplommdgfgboaaGreatDoor.Utf Go.Proofs.YtnplommdgfgboaaGreatDoor.TermPure

structure Triple where
  s : Term
  p : Term
  o : Term
deriving DecidableEq
def isTriple (t : Triple) : Bool := is t.s && (is t.p && (is t.o && ((decide (t.s.kind = 1) || decide (t.s.kind = 2)) && decide (t.p.kind = 1))))

def hexV (b : UInt8) : Option Nat :=
  if 48 ≤ b.toNat ∧ b.toNat ≤ 57 then some (b.toNat - 48)
  else if 97 ≤ b.toNat ∧ b.toNat ≤ 102 then some (b.toNat - 87)
  else if 65 ≤ b.toNat ∧ b.toNat ≤ 70 then some (b.toNat - 55)
  else none
/-- So many digits, the number so far. -/
def hexGo : Nat → Nat → List UInt8 → Option (Nat × List UInt8)
  | 0, v, l => some (v, l)
  | _ + 1, _, [] => none
  | n + 1, v, b :: l => match hexV b with
    | none => none
    | some d => hexGo n (v * 16 + d) l
def escV (b : UInt8) : Option UInt8 :=
  if b = 116 then some 9 else if b = 98 then some 8 else if b = 110 then some 10 else if b = 114 then some 13 else if b = 102 then some 12
  else if b = 34 then some 34 else if b = 39 then some 39 else if b = 92 then some 92 else none
def rune (r : Option (Nat × List UInt8)) : Option (List UInt8 × List UInt8) :=
  match r with
  | none => none
  | some (v, l) => if Lib.validRune (v : Int) = true then some (encodeRune (v : Int), l) else none
/-- What stands behind a backslash; what is left. -/
def esc (lit : Bool) : List UInt8 → Option (List UInt8 × List UInt8)
  | [] => none
  | b :: l =>
    if b = 117 then rune (hexGo 4 0 l)
    else if b = 85 then rune (hexGo 8 0 l)
    else if lit then match escV b with
      | some c => some ([c], l)
      | none => none
    else none
/-- Up to a sign, which is taken; nl: a line's end may not stand there. -/
def upTo (stop : UInt8) (lit nl : Bool) : Nat → List UInt8 → Option (List UInt8 × List UInt8)
  | 0, _ => none
  | _ + 1, [] => none
  | n + 1, b :: l =>
    if b = stop then some ([], l)
    else if b = 92 then match esc lit l with
      | none => none
      | some (o, r) => (upTo stop lit nl n r).map fun x => (o ++ x.1, x.2)
    else if nl = true ∧ (b = 10 ∨ b = 13) then none
    else (upTo stop lit nl n l).map fun x => (b :: x.1, x.2)
theorem hexGo_rest : ∀ (n v : Nat) (l : List UInt8) (x : Nat) (r : List UInt8), hexGo n v l = some (x, r) → r = l.drop n ∧ n ≤ l.length
  | 0, v, l, x, r, h => by
    rw [hexGo] at h
    cases h
    exact ⟨rfl, Nat.zero_le _⟩
  | n + 1, v, [], x, r, h => by rw [hexGo] at h; cases h
  | n + 1, v, b :: l, x, r, h => by
    rw [hexGo] at h
    cases hb : hexV b with
    | none => rw [hb] at h; cases h
    | some d =>
      rw [hb] at h
      obtain ⟨h1, h2⟩ := hexGo_rest n _ l x r h
      exact ⟨h1, by simp; omega⟩
theorem hexGo_len (n v : Nat) (l : List UInt8) (x : Nat) (r : List UInt8) (h : hexGo n v l = some (x, r)) : r.length ≤ l.length := by
  obtain ⟨rfl, _⟩ := hexGo_rest n v l x r h
  simp
theorem rune_len (n : Nat) (l o r : List UInt8) (h : rune (hexGo n 0 l) = some (o, r)) : r.length ≤ l.length := by
  cases hg : hexGo n 0 l with
  | none => rw [hg, rune] at h; cases h
  | some p =>
    obtain ⟨v, q⟩ := p
    rw [hg, rune] at h
    have := hexGo_len _ _ _ _ _ hg
    split at h
    · cases h; exact this
    · cases h
theorem esc_len (lit : Bool) (l o r : List UInt8) (h : esc lit l = some (o, r)) : r.length < l.length := by
  cases l with
  | nil => cases h
  | cons b t =>
    have key : r.length ≤ t.length := by
      rw [esc] at h
      split at h
      · exact rune_len _ _ _ _ h
      · split at h
        · exact rune_len _ _ _ _ h
        · split at h
          · split at h
            · cases h; exact Nat.le_refl _
            · cases h
          · cases h
    simp
    omega
theorem encodeRune_len (r : Int) : (encodeRune r).length ≤ 4 := by
  unfold encodeRune encodeRuneZ
  repeat' split
  all_goals simp
theorem esc_len2 (lit : Bool) (l o r : List UInt8) (h : esc lit l = some (o, r)) : o.length + r.length ≤ l.length := by
  have num : ∀ (n : Nat) (t : List UInt8), 4 ≤ n → rune (hexGo n 0 t) = some (o, r) → o.length + r.length ≤ t.length := by
    intro n t hn h
    cases hg : hexGo n 0 t with
    | none => rw [hg, rune] at h; cases h
    | some p =>
      obtain ⟨v, q⟩ := p
      rw [hg, rune] at h
      obtain ⟨rfl, h2⟩ := hexGo_rest n 0 t v q hg
      split at h
      · cases h
        have := encodeRune_len (v : Int)
        simp
        omega
      · cases h
  cases l with
  | nil => cases h
  | cons b t =>
    rw [esc] at h
    split at h
    · have := num 4 t (by decide) h
      simp
      omega
    · split at h
      · have := num 8 t (by decide) h
        simp
        omega
      · split at h
        · split at h
          · cases h; simp; omega
          · cases h
        · cases h
theorem upTo_fuel (stop : UInt8) (lit nl : Bool) : ∀ (n m : Nat) (l : List UInt8), l.length < n → l.length < m → upTo stop lit nl n l = upTo stop lit nl m l
  | 0, m, l, h, _ => by omega
  | n + 1, 0, l, _, h => by omega
  | n + 1, m + 1, [], _, _ => rfl
  | n + 1, m + 1, b :: l, hn, hm => by
    simp at hn hm
    rw [upTo, upTo]
    split
    · rfl
    · split
      · cases he : esc lit l with
        | none => rfl
        | some p =>
          obtain ⟨o, r⟩ := p
          have := esc_len lit l o r he
          dsimp only
          rw [upTo_fuel stop lit nl n m r (by omega) (by omega)]
      · split
        · rfl
        · rw [upTo_fuel stop lit nl n m l (by omega) (by omega)]
/-- Up to a sign. -/
def up (stop : UInt8) (lit nl : Bool) (l : List UInt8) : Option (List UInt8 × List UInt8) := upTo stop lit nl (l.length + 1) l
theorem up_nil (stop : UInt8) (lit nl : Bool) : up stop lit nl [] = none := rfl
theorem up_stop (stop : UInt8) (lit nl : Bool) (l : List UInt8) : up stop lit nl (stop :: l) = some ([], l) := by rw [up, upTo, if_pos rfl]
theorem up_esc_none (stop : UInt8) (lit nl : Bool) (b : UInt8) (l : List UInt8) (h : b ≠ stop) (h1 : b = 92) (he : esc lit l = none) : up stop lit nl (b :: l) = none := by
  rw [up, upTo, if_neg h, if_pos h1, he]
theorem up_esc (stop : UInt8) (lit nl : Bool) (b : UInt8) (l o r : List UInt8) (h : b ≠ stop) (h1 : b = 92) (he : esc lit l = some (o, r)) : up stop lit nl (b :: l) = (up stop lit nl r).map fun x => (o ++ x.1, x.2) := by
  have := esc_len lit l o r he
  rw [up, upTo, if_neg h, if_pos h1, he]
  dsimp only
  rw [up, upTo_fuel stop lit nl (b :: l).length (r.length + 1) r (by simp; omega) (by omega)]
theorem up_line (stop : UInt8) (lit nl : Bool) (b : UInt8) (l : List UInt8) (h : b ≠ stop) (h1 : b ≠ 92) (h2 : nl = true ∧ (b = 10 ∨ b = 13)) : up stop lit nl (b :: l) = none := by
  rw [up, upTo, if_neg h, if_neg h1, if_pos h2]
theorem up_other (stop : UInt8) (lit nl : Bool) (b : UInt8) (l : List UInt8) (h : b ≠ stop) (h1 : b ≠ 92) (h2 : ¬ (nl = true ∧ (b = 10 ∨ b = 13))) : up stop lit nl (b :: l) = (up stop lit nl l).map fun x => (b :: x.1, x.2) := by
  rw [up, upTo, if_neg h, if_neg h1, if_neg h2]
  rfl

def blank (b : UInt8) : Bool := b == 32 || b == 9
def blanks (l : List UInt8) : List UInt8 := l.dropWhile blank
def inRun (dash : Bool) (b : UInt8) : Bool := alnum b.toNat || (dash && b == 45)
def run (dash : Bool) (l : List UInt8) : List UInt8 × List UInt8 := (l.takeWhile (inRun dash), l.dropWhile (inRun dash))
/-- A literal behind its sign; ref: the reference's way. -/
def literal (ref : Bool) (l : List UInt8) : Option (Term × List UInt8) :=
  match up 34 true true l with
  | none => none
  | some (t, r) =>
    if [64].isPrefixOf r = true then some (⟨4, t, toLowerA (run true (r.drop 1)).1⟩, (run true (r.drop 1)).2)
    else if [94, 94].isPrefixOf r = true then
      if [60].isPrefixOf (r.drop 2) = true then (up 62 false ref (r.drop 3)).map fun x => (⟨5, t, x.1⟩, x.2)
      else if ref = true then some (⟨3, t, []⟩, r) else none
    else some (⟨3, t, []⟩, r)
/-- A term; no check whether it may be. -/
def rawTerm (ref : Bool) (l : List UInt8) : Option (Term × List UInt8) :=
  if [60].isPrefixOf l = true then (up 62 false ref (l.drop 1)).map fun x => (⟨1, x.1, []⟩, x.2)
  else if [95, 58].isPrefixOf l = true then some (⟨2, (run false (l.drop 2)).1, []⟩, (run false (l.drop 2)).2)
  else if [34].isPrefixOf l = true then literal ref (l.drop 1)
  else none
def term (ref : Bool) (l : List UInt8) : Option (Term × List UInt8) :=
  match rawTerm ref l with
  | none => none
  | some (t, r) => if is t = true then some (t, r) else none
def over (l : List UInt8) : Bool := decide (l = []) || [35].isPrefixOf l
/-- A line: none: it is no line; some none: it has no triple. -/
def lineOf (ref : Bool) (s : List UInt8) : Option (Option Triple) :=
  if validD s = false then none
  else if over (blanks s) = true then some none
  else match term ref (blanks s) with
    | none => none
    | some (a, r) => match term ref (blanks r) with
      | none => none
      | some (p, r) => match term ref (blanks r) with
        | none => none
        | some (o, r) =>
          if [46].isPrefixOf (blanks r) = true ∧ over (blanks ((blanks r).drop 1)) = true ∧ isTriple ⟨a, p, o⟩ = true then some (some ⟨a, p, o⟩) else none
end Go.Proofs.YtnplommdgfgboaaGreatDoor.LinesPure
/-
  What the reference of term answers.
-/
set_option linter.unusedVariables false
set_option linter.unusedSimpArgs false
namespace Go.Proofs.YtnplommdgfgboaaGreatDoor.Ref4
open Go.RowKit Go.Lib Go.Proofs.YtnplommdgfgboaaGreatDoor.B Go.Proofs.YtnplommdgfgboaaGreatDoor.Utf Go.Proofs.YtnplommdgfgboaaGreatDoor.TermPure Go.Proofs.YtnplommdgfgboaaGreatDoor.LinesPure

theorem mkS_get (l : List UInt8) (k : Nat) (h : k < (mkS l).size) (h' : k < l.length) : (mkS l)[k] = l[k] := rfl
theorem alnum_calls (b : UInt8) (w : World) :
    Calls Tryz.prog 156 #[.int .u8 b.toNat] w fun e w' => e = .returned (.bool (alnum b.toNat)) ∧ w = w' := by
  have h := b.toNat_lt
  unfold alnum
  generalize b.toNat = n at *
  go_enter Tryz.func156, Tryz.ntmps156
  go_wp2
  all_goals go_ret
  all_goals exact ⟨ret_bool (by rw [Bool.eq_iff_iff]; simp; omega), rfl⟩

set_option maxHeartbeats 800000 in
theorem label_calls (l : List UInt8) (hl : l.length ≤ 140737488355328) (w : World) :
    Calls Tryz.prog 125 #[.string (mkS l)] w fun e w' => e = .returned (.bool (isLabel l)) ∧ w = w' := by
  have hsz := mkS_size l
  go_enter Tryz.func125, Tryz.ntmps125
  go_wp2
  go_loopw [3] (fun vi wr => ∃ k : Nat, k ≤ l.length ∧ vi = .int .i64 k ∧ wr = w ∧ Hid ((l.take k).all (fun b => alnum b.toNat) = true)) (fun vi _ => l.length - (intOf vi).toNat)
  case atStart => exact ⟨0, by omega, rfl, rfl, Lib.hid rfl⟩
  case round =>
    obtain ⟨k, hk, rfl, rfl, HA⟩ := hrel
    by_cases hlt : k < l.length
    · have hd : decide (k < l.length) = true := decide_eq_true hlt
      have ik : (k : Int) < (l.length : Int) := by omega
      have ik0 : (0 : Int) ≤ (k : Int) := by omega
      obtain ⟨b, hb0⟩ : ∃ b, l[k] = b := ⟨_, rfl⟩
      have hks : k < (mkS l).size := by rw [hsz]; exact hlt
      have hg : (mkS l)[k]'hks = b := (mkS_get l k hks hlt).trans hb0
      have hgl : Hid (l.take (k + 1) = l.take k ++ [b]) := Lib.hid (by rw [List.take_succ_eq_append_getElem hlt, hb0])
      have HN : Hid (alnum b.toNat = false → isLabel l = false) := Lib.hid (fun h => by
        have : (l.all fun b => alnum b.toNat) = false := by
          rw [List.all_eq_false]
          exact ⟨b, by rw [← hb0]; exact List.getElem_mem hlt, by simp [h]⟩
        rw [isLabel, this]
        simp)
      clear hb0
      go_wp2_with fail
      refine (alnum_calls b _).mono ?_
      rintro e w1 ⟨rfl, rfl⟩
      cases hb : alnum b.toNat with
      | true =>
        go_wp2
        go_roundw
        case rel => exact ⟨k + 1, by omega, by go_num, by first | rfl | trivial, Lib.hid (by rw [hgl.out, List.all_append, HA.out]; simp [hb])⟩
        case measure => simp [intOf]; omega
      | false =>
        have HF := Lib.hid (HN.out hb)
        go_wp2
        go_ret
        exact ⟨ret_bool HF.out.symm, rfl⟩
    · obtain rfl : k = l.length := by omega
      rw [List.take_length] at HA
      have HF : Hid (isLabel l = (decide (1 ≤ l.length) && decide (l.length ≤ 8))) := Lib.hid (by
        rw [isLabel, HA.out]
        cases l <;> simp)
      by_cases c1 : 1 ≤ l.length
      · have d1 : decide ((1 : Int) ≤ (l.length : Int)) = true := decide_eq_true (by omega)
        by_cases c8 : l.length ≤ 8
        · have d8 : decide ((l.length : Int) ≤ 8) = true := decide_eq_true (by omega)
          have HF' := Lib.hid (HF.out.trans (by simp [c1, c8] : _ = true))
          go_wp2
          go_ret
          exact ⟨ret_bool HF'.out.symm, rfl⟩
        · have d8 : decide ((l.length : Int) ≤ 8) = false := decide_eq_false (by omega)
          have HF' := Lib.hid (HF.out.trans (by simp [c8] : _ = false))
          go_wp2
          go_ret
          exact ⟨ret_bool HF'.out.symm, rfl⟩
      · have d1 : decide ((1 : Int) ≤ (l.length : Int)) = false := decide_eq_false (by omega)
        have HF' := Lib.hid (HF.out.trans (by simp [c1] : _ = false))
        go_wp2
        go_ret
        exact ⟨ret_bool HF'.out.symm, rfl⟩

theorem iriRune_plain (n : Nat) : iriRune n = true ↔ (33 ≤ n ∧ n ≤ 126 ∧ n ≠ 34 ∧ n ≠ 60 ∧ n ≠ 62 ∧ n ≠ 92 ∧ n ≠ 94 ∧ n ≠ 96 ∧ n ≠ 123 ∧ n ≠ 124 ∧ n ≠ 125) ∨ 160 ≤ n := by
  unfold iriRune odd
  simp
  omega
set_option maxHeartbeats 800000 in
theorem iriRune_calls (n : Nat) (hn : n ≤ 1114111) (w : World) :
    Calls Tryz.prog 155 #[.int .i32 n] w fun e w' => e = .returned (.bool (iriRune n)) ∧ w = w' := by
  have hp := Lib.hid (iriRune_plain n)
  go_enter Tryz.func155, Tryz.ntmps155
  go_wp2
  all_goals go_ret
  all_goals simp only [beq_iff_eq, beq_eq_false_iff_ne, ne_eq, Bool.not_eq_true] at *
  all_goals exact ⟨ret_bool (by rw [Bool.eq_iff_iff, hp.out]; simp; omega), by first | rfl | trivial⟩

set_option maxHeartbeats 1600000 in
theorem lang_calls (l : List UInt8) (hl : l.length ≤ 140737488355328) (w : World) :
    Calls Tryz.prog 126 #[.string (mkS l)] w fun e w' => e = .returned (.bool (isLang l)) ∧ Below w.heap.size w w' := by
  have hsz := mkS_size l
  go_enter Tryz.func126, Tryz.ntmps126
  go_wp2
  go_loopw [3, 4, 5] (fun vp vm vi wr => ∃ k p m : Nat, k ≤ l.length ∧ vi = .int .i64 k ∧ vp = .int .i64 p ∧ vm = .int .i64 m ∧ p ≤ k ∧ m ≤ 8 ∧ Hid (Below w.heap.size w wr) ∧ Hid (langGo false 0 l = langGo (decide (0 < p)) m (l.drop k))) (fun _ _ vi _ => l.length - (intOf vi).toNat)
  case atStart => exact ⟨0, 0, 0, by omega, rfl, rfl, rfl, by omega, by omega, Lib.hid (Below.refl _ _), Lib.hid (by simp)⟩
  case round =>
    obtain ⟨k, p, m, hk, rfl, rfl, rfl, hpk, hm, HW, HL⟩ := hrel
    by_cases hlt : k < l.length
    · have hd : decide (k < l.length) = true := decide_eq_true hlt
      have ik : (k : Int) < (l.length : Int) := by omega
      have ik0 : (0 : Int) ≤ (k : Int) := by omega
      obtain ⟨b, hb0⟩ : ∃ b, l[k] = b := ⟨_, rfl⟩
      have hks : k < (mkS l).size := by rw [hsz]; exact hlt
      have hg : (mkS l)[k]'hks = b := (mkS_get l k hks hlt).trans hb0
      have HD : Hid (l.drop k = b :: l.drop (k + 1)) := Lib.hid (by rw [List.drop_eq_getElem_cons hlt, hb0])
      rw [HD.out] at HL
      clear hb0 HD
      have hbl := b.toNat_lt
      generalize hB : b.toNat = B at *
      go_wp2_with fail
      go_cut [6, 7] (fun v6 v7 wx => v6 = .bool (decide (97 ≤ B) && decide (B ≤ 122)) ∧ v7 = .bool (decide (48 ≤ B) && decide (B ≤ 57)) ∧ Hid (Below w.heap.size w wx))
      case first =>
        clear HL hd
        by_cases a1 : 97 ≤ B
        · have e1 : decide (97 ≤ (B : Int)) = true := decide_eq_true (by omega)
          have e3 : decide (48 ≤ (B : Int)) = true := decide_eq_true (by omega)
          have e4 : decide ((B : Int) ≤ 57) = false := decide_eq_false (by omega)
          by_cases a2 : B ≤ 122
          · have e2 : decide ((B : Int) ≤ 122) = true := decide_eq_true (by omega)
            go_quiet (fail)
            go_wp2
            go_meet
            exact ⟨by simp; omega, by simp; omega, Lib.hid (bel_drewN HW.out _)⟩
          · have e2 : decide ((B : Int) ≤ 122) = false := decide_eq_false (by omega)
            go_quiet (fail)
            go_wp2
            go_meet
            exact ⟨by simp; omega, by simp; omega, Lib.hid (bel_drewN HW.out _)⟩
        · have e1 : decide (97 ≤ (B : Int)) = false := decide_eq_false (by omega)
          by_cases a3 : 48 ≤ B
          · have e3 : decide (48 ≤ (B : Int)) = true := decide_eq_true (by omega)
            by_cases a4 : B ≤ 57
            · have e4 : decide ((B : Int) ≤ 57) = true := decide_eq_true (by omega)
              go_quiet (fail)
              go_wp2
              go_meet
              exact ⟨by simp; omega, by simp; omega, Lib.hid (bel_drewN HW.out _)⟩
            · have e4 : decide ((B : Int) ≤ 57) = false := decide_eq_false (by omega)
              go_quiet (fail)
              go_wp2
              go_meet
              exact ⟨by simp; omega, by simp; omega, Lib.hid (bel_drewN HW.out _)⟩
          · have e3 : decide (48 ≤ (B : Int)) = false := decide_eq_false (by omega)
            go_quiet (fail)
            go_wp2
            go_meet
            exact ⟨by simp; omega, by simp; omega, Lib.hid (bel_drewN HW.out _)⟩
      case rest =>
        obtain ⟨rfl, rfl, HW2⟩ := hcut
        have w1 : IntKind.i64.wrap ((m : Int) + 1) = ((m + 1 : Nat) : Int) := by rw [IntKind.wrap_i64]; omega
        have w2 : IntKind.i64.wrap ((p : Int) + 1) = ((p + 1 : Nat) : Int) := by rw [IntKind.wrap_i64]; omega
        have hb45 : (b = 45) ↔ B = 45 := by rw [← hB]; exact ⟨fun h => by rw [h]; rfl, fun h => UInt8.toNat_inj.1 h⟩
        rw [langGo] at HL
        rw [hB] at HL
        by_cases c45 : B = 45
        · have d45 : ((B : Int) == 45) = true := by rw [beq_iff_eq]; omega
          rw [if_pos (hb45.2 c45)] at HL
          have s1 : (decide (97 ≤ B) && decide (B ≤ 122)) = false := by simp; omega
          have s2 : (decide (48 ≤ B) && decide (B ≤ 57)) = false := by simp; omega
          rw [s1, s2]
          clear hb45 s1 s2
          by_cases cm : 0 < m
          · have dm : decide (0 < m) = true := decide_eq_true cm
            rw [dm] at HL
            go_wp2
            go_roundw
            case rel => exact ⟨k + 1, p + 1, 0, by omega, by go_num, by go_num, rfl, by omega, by omega, HW2, Lib.hid (by rw [HL.out]; simp)⟩
            case measure => simp [intOf]; omega
          · have dm : decide (0 < m) = false := decide_eq_false cm
            rw [dm] at HL
            have HF : Hid (isLang l = false) := Lib.hid (by rw [isLang, HL.out]; simp)
            go_wp2
            go_ret
            exact ⟨ret_bool HF.out.symm, HW2.out⟩
        · have d45 : ((B : Int) == 45) = false := by rw [beq_eq_false_iff_ne]; omega
          rw [if_neg (fun h => c45 (hb45.1 h))] at HL
          clear hb45
          have w8 : IntKind.i64.wrap ((m : Int) + 1) = ((m + 1 : Nat) : Int) := w1
          generalize (decide (97 ≤ B) && decide (B ≤ 122)) = sm at *
          generalize (decide (48 ≤ B) && decide (B ≤ 57)) = dg at *
          by_cases good : (sm || (decide (0 < p) && dg)) = true
          · rw [if_pos good] at HL
            by_cases c8 : m < 8
            · have d8 : decide (8 < ((m + 1 : Nat) : Int)) = false := decide_eq_false (by omega)
              have HL' : Hid (langGo false 0 l = langGo (decide (0 < p)) (m + 1) (l.drop (k + 1))) := Lib.hid (by rw [HL.out, decide_eq_true c8]; rfl)
              cases sm with
              | true =>
                clear good
                go_wp2
                go_roundw
                case rel => exact ⟨k + 1, p, m + 1, by omega, by go_num, rfl, by go_num, by omega, by omega, HW2, HL'⟩
                case measure => simp [intOf]; omega
              | false =>
                rw [Bool.false_or, Bool.and_eq_true] at good
                obtain ⟨gp, rfl⟩ := good
                go_wp2
                go_roundw
                case rel => exact ⟨k + 1, p, m + 1, by omega, by go_num, rfl, by go_num, by omega, by omega, HW2, HL'⟩
                case measure => simp [intOf]; omega
            · have d8 : decide (8 < ((m + 1 : Nat) : Int)) = true := decide_eq_true (by omega)
              have HF : Hid (isLang l = false) := Lib.hid (by rw [isLang, HL.out, decide_eq_false c8]; rfl)
              cases sm with
              | true =>
                clear good
                go_wp2
                go_ret
                exact ⟨ret_bool HF.out.symm, HW2.out⟩
              | false =>
                rw [Bool.false_or, Bool.and_eq_true] at good
                obtain ⟨gp, rfl⟩ := good
                go_wp2
                go_ret
                exact ⟨ret_bool HF.out.symm, HW2.out⟩
          · rw [if_neg good] at HL
            have HF : Hid (isLang l = false) := Lib.hid (by rw [isLang, HL.out]; rfl)
            cases sm with
            | true => exact absurd rfl good
            | false =>
              cases dg with
              | false =>
                clear good
                go_wp2
                go_ret
                exact ⟨ret_bool HF.out.symm, HW2.out⟩
              | true =>
                have gp : decide (0 < p) = false := by
                  cases h : decide (0 < p) with
                  | false => rfl
                  | true => rw [h] at good; exact absurd rfl good
                clear good
                go_wp2
                go_ret
                exact ⟨ret_bool HF.out.symm, HW2.out⟩
    · obtain rfl : k = l.length := by omega
      rw [List.drop_length] at HL
      have HF : Hid (isLang l = (decide (0 < m) && decide (l.length ≤ 16))) := Lib.hid (by rw [isLang, HL.out, langGo])
      clear HL
      by_cases cm : 0 < m
      · have dm : decide (0 < m) = true := decide_eq_true cm
        by_cases c16 : l.length ≤ 16
        · have d16 : decide ((l.length : Int) ≤ 16) = true := decide_eq_true (by omega)
          have HF' := Lib.hid (HF.out.trans (by simp [cm, c16] : _ = true))
          go_wp2
          go_ret
          exact ⟨ret_bool HF'.out.symm, HW.out⟩
        · have d16 : decide ((l.length : Int) ≤ 16) = false := decide_eq_false (by omega)
          have HF' := Lib.hid (HF.out.trans (by simp [c16] : _ = false))
          go_wp2
          go_ret
          exact ⟨ret_bool HF'.out.symm, HW.out⟩
      · have dm : decide (0 < m) = false := decide_eq_false cm
        have HF' := Lib.hid (HF.out.trans (by simp [cm] : _ = false))
        go_wp2
        go_ret
        exact ⟨ret_bool HF'.out.symm, HW.out⟩
end Go.Proofs.YtnplommdgfgboaaGreatDoor.Ref4
/-
  What the reference of lines answers: its reader.
-/
set_option linter.unusedVariables false
set_option linter.unusedSimpArgs false
namespace Go.Proofs.YtnplommdgfgboaaGreatDoor.Ref5
open Go.RowKit Go.Lib Go.Proofs.YtnplommdgfgboaaGreatDoor.B Go.Proofs.YtnplommdgfgboaaGreatDoor.Ref4 Go.Proofs.YtnplommdgfgboaaGreatDoor.Rd Go.Proofs.YtnplommdgfgboaaGreatDoor.Utf Go.Proofs.YtnplommdgfgboaaGreatDoor.TermPure Go.Proofs.YtnplommdgfgboaaGreatDoor.LinesPure

theorem isPrefixOf_take (p s : List UInt8) (h : p.length ≤ s.length) : (s.take p.length == p) = p.isPrefixOf s := by
  rw [Bool.eq_iff_iff, beq_iff_eq, List.isPrefixOf_iff_prefix, List.prefix_iff_eq_take]
  exact ⟨fun e => e.symm, fun e => e.symm⟩
theorem not_prefix (p s : List UInt8) (h : ¬ p.length ≤ s.length) : p.isPrefixOf s = false := by
  rw [Bool.eq_false_iff]
  intro e
  rw [List.isPrefixOf_iff_prefix] at e
  exact h e.length_le
set_option maxHeartbeats 800000 in
theorem has_calls (rb : Nat) (s p : List UInt8) (bad : Bool) (hp : p.length ≤ 100) (w : World) (h : At w rb s bad) :
    Calls Tryz.prog 147 #[.pointer (some ⟨rb, 0, none⟩), .string (mkS p)] w fun e w' => e = .returned (.bool (p.isPrefixOf s)) ∧ w = w' := by
  obtain ⟨c0, c1, f0, f1, len⟩ := h
  have z1 := mkS_size s
  have z2 := mkS_size p
  have y1 := Lib.hid (mkS_extract s 0 p.length)
  by_cases hl : p.length ≤ s.length
  · go_enter Tryz.func147, Tryz.ntmps147
    go_wp2
    go_ret
    exact ⟨ret_bool (by rw [y1.out, mkS_toList, mkS_toList, List.drop_zero, Nat.sub_zero]; exact isPrefixOf_take p s hl), rfl⟩
  · have hn := Lib.hid (not_prefix p s hl)
    go_enter Tryz.func147, Tryz.ntmps147
    go_wp2
    go_ret
    exact ⟨ret_bool hn.out.symm, rfl⟩
theorem fail_calls (rb : Nat) (s : List UInt8) (bad : Bool) (w : World) (h : At w rb s bad) :
    Calls Tryz.prog 190 #[.pointer (some ⟨rb, 0, none⟩)] w fun e w' => e = .returned (.tuple #[]) ∧ Step w w' rb [] true := by
  have h' := h
  obtain ⟨c0, c1, f0, f1, len⟩ := h
  go_enter Tryz.func190, Tryz.ntmps190
  go_wp2
  go_end0
  exact ⟨rfl, ((Step.refl h').set0 (t := []) (by simp)).set1 true⟩

/-- What is left behind blanks. -/
theorem blanks_cons (b : UInt8) (l : List UInt8) (h : LinesPure.blank b = true) : blanks (b :: l) = blanks l := by
  rw [blanks, blanks, List.dropWhile_cons, if_pos h]
theorem blanks_stop (b : UInt8) (l : List UInt8) (h : LinesPure.blank b = false) : blanks (b :: l) = b :: l := by
  rw [blanks, List.dropWhile_cons, h]
  rfl
theorem blank_yes (b : UInt8) (h : (b.toNat : Int) = 32 ∨ (b.toNat : Int) = 9) : LinesPure.blank b = true := by
  rw [LinesPure.blank, Bool.or_eq_true, beq_iff_eq, beq_iff_eq]
  rcases h with h | h
  · exact .inl (UInt8.toNat_inj.1 (by simp; omega))
  · exact .inr (UInt8.toNat_inj.1 (by simp; omega))
theorem blank_no (b : UInt8) (h : (b.toNat : Int) ≠ 32) (h' : (b.toNat : Int) ≠ 9) : LinesPure.blank b = false := by
  rw [LinesPure.blank, Bool.or_eq_false_iff, beq_eq_false_iff_ne, beq_eq_false_iff_ne]
  exact ⟨fun e => h (by rw [e]; rfl), fun e => h' (by rw [e]; rfl)⟩
set_option maxHeartbeats 800000 in
theorem blanks_calls (rb : Nat) (s : List UInt8) (bad : Bool) (w : World) (h : At w rb s bad) :
    Calls Tryz.prog 146 #[.pointer (some ⟨rb, 0, none⟩)] w fun e w' => e = .returned (.tuple #[]) ∧ Step w w' rb (blanks s) bad := by
  have h' := Lib.hid h
  clear h
  go_enter Tryz.func146, Tryz.ntmps146
  go_wp2
  go_loopg [] s.length (fun k wr => ∃ l : List UInt8, l.length = k ∧ Hid (Step w wr rb l bad) ∧ Hid (blanks l = blanks s))
  case atStart => exact ⟨s, rfl, Lib.hid (Step.refl h'.out), Lib.hid rfl⟩
  case round =>
    obtain ⟨l, hl0, HS, HB⟩ := hrel
    have hl := Lib.hid hl0
    clear hl0
    obtain ⟨c0, c1, f0, f1, len⟩ := HS.out.at'
    have z := mkS_size l
    cases l with
    | nil =>
      have z1 : (mkS ([] : List UInt8)).toList = [] := mkS_toList []
      clear h'
      go_wp2
      go_end0
      exact ⟨rfl, by rw [← HB.out]; exact HS.out⟩
    | cons b t =>
      have z1 : (mkS (b :: t)).toList = b :: t := mkS_toList _
      have hk : 0 < (mkS (b :: t)).size := by rw [z]; simp
      have hg : (mkS (b :: t))[0]'hk = b := rfl
      have hx : (mkS (b :: t)).extract 1 (b :: t).length = mkS t := by rw [mkS_extract]; simp
      have hn : (1 : Int) ≤ ((b :: t).length : Int) := by simp; omega
      have hE : (b :: t).isEmpty = false := rfl
      have hE' : ¬ (b :: t) = [] := by simp
      have HT : Hid (LinesPure.blank b = true → blanks t = blanks s) := Lib.hid (fun h => by rw [← HB.out, blanks_cons b t h])
      have HN : Hid (LinesPure.blank b = false → blanks s = b :: t) := Lib.hid (fun h => by rw [← HB.out, blanks_stop b t h])
      have HL : Hid (t.length ≤ 70368744177664 ∧ t.length < gk) := Lib.hid (by rw [← hl.out]; simp at len ⊢; omega)
      generalize hL : (b :: t : List UInt8) = L at *
      have HB1 := Lib.hid hL
      clear h' hL
      by_cases a1 : (b.toNat : Int) = 32
      · have e1 : ((b.toNat : Int) == 32) = true := by rw [beq_iff_eq]; exact a1
        have HB2 := Lib.hid (HT.out (blank_yes b (.inl a1)))
        clear a1
        go_wp2
        go_roundg t.length
        case measure => exact HL.out.2
        case rel => exact ⟨t, rfl, Lib.hid (HS.out.set0 HL.out.1), HB2⟩
      · have e1 : ((b.toNat : Int) == 32) = false := by rw [beq_eq_false_iff_ne]; exact a1
        by_cases a2 : (b.toNat : Int) = 9
        · have e2 : ((b.toNat : Int) == 9) = true := by rw [beq_iff_eq]; exact a2
          have HB2 := Lib.hid (HT.out (blank_yes b (.inr a2)))
          clear a1 a2
          go_wp2
          go_roundg t.length
          case measure => exact HL.out.2
          case rel => exact ⟨t, rfl, Lib.hid (HS.out.set0 HL.out.1), HB2⟩
        · have e2 : ((b.toNat : Int) == 9) = false := by rw [beq_eq_false_iff_ne]; exact a2
          have HB2 := Lib.hid (HN.out (blank_no b a1 a2))
          clear a1 a2
          go_wp2
          go_end0
          exact ⟨rfl, by rw [HB2.out]; exact HS.out⟩

theorem tw_of (p : UInt8 → Bool) (s : List UInt8) (k : Nat) (hk : k ≤ s.length) (hall : (s.take k).all p = true) (hstop : ∀ h : k < s.length, p s[k] = false) :
    s.takeWhile p = s.take k ∧ s.dropWhile p = s.drop k := by
  induction s generalizing k with
  | nil => simp
  | cons b t ih =>
    cases k with
    | zero =>
      have := hstop (by simp)
      simp at this
      simp [List.takeWhile_cons, List.dropWhile_cons, this]
    | succ k =>
      simp at hall
      have hb := hall.1
      have := ih k (by simpa using hk) (by simpa using hall.2) (fun h => by have := hstop (by simp; omega); simpa using this)
      simp [List.takeWhile_cons, List.dropWhile_cons, hb, this.1, this.2]
theorem run_eq (dash : Bool) (l : List UInt8) : run dash l = (l.takeWhile (inRun dash), l.dropWhile (inRun dash)) := rfl
theorem byte_beq (b : UInt8) (n : Nat) (hn : n < 256) : (b == UInt8.ofNat n) = ((b.toNat : Int) == (n : Int)) := by
  rw [Bool.eq_iff_iff, beq_iff_eq, beq_iff_eq]
  constructor
  · rintro rfl
    simp
    omega
  · intro h
    apply UInt8.toNat_inj.1
    simp
    omega
set_option maxHeartbeats 1600000 in
theorem run_calls (rb : Nat) (s : List UInt8) (bad dash : Bool) (w : World) (h : At w rb s bad) :
    Calls Tryz.prog 188 #[.pointer (some ⟨rb, 0, none⟩), .bool dash] w fun e w' => e = .returned (.string (mkS (run dash s).1)) ∧ Step w w' rb (run dash s).2 bad := by
  have h' := Lib.hid h
  obtain ⟨c0, c1, f0, f1, len⟩ := h
  have z := mkS_size s
  go_enter Tryz.func188, Tryz.ntmps188
  go_wp2
  go_loopw [5] (fun vi wr => ∃ k : Nat, k ≤ s.length ∧ vi = .int .i64 k ∧ wr = w ∧ Hid ((s.take k).all (inRun dash) = true)) (fun vi _ => s.length - (intOf vi).toNat)
  case atStart => exact ⟨0, by omega, rfl, rfl, Lib.hid rfl⟩
  case round =>
    obtain ⟨k, hk, rfl, rfl, HA⟩ := hrel
    have HX : Hid ((mkS s).extract k s.length = mkS (s.drop k)) := Lib.hid (by rw [mkS_extract, List.take_of_length_le (by simp)])
    have HY : Hid ((mkS s).extract 0 k = mkS (s.take k)) := Lib.hid (by rw [mkS_extract]; simp)
    have HD : Hid ((s.drop k).length ≤ 70368744177664) := Lib.hid (by rw [List.length_drop]; omega)
    by_cases hlt : k < s.length
    · have hd : decide (k < s.length) = true := decide_eq_true hlt
      have ik : (k : Int) < (s.length : Int) := by omega
      have ik0 : (0 : Int) ≤ (k : Int) := by omega
      obtain ⟨b, hb0⟩ : ∃ b, s[k] = b := ⟨_, rfl⟩
      have hks : k < (mkS s).size := by rw [z]; exact hlt
      have hg : (mkS s)[k]'hks = b := (Rd.mkS_get s k hks hlt).trans hb0
      have hgl : Hid (s.take (k + 1) = s.take k ++ [b]) := Lib.hid (by rw [List.take_succ_eq_append_getElem hlt, hb0])
      have HN : Hid (inRun dash b = false → s.takeWhile (inRun dash) = s.take k ∧ s.dropWhile (inRun dash) = s.drop k) :=
        Lib.hid (fun hf => tw_of _ s k hk HA.out (fun h => by rw [hb0]; exact hf))
      have HY1 : Hid (inRun dash b = true → (s.take (k + 1)).all (inRun dash) = true) := Lib.hid (fun ht => by rw [hgl.out, List.all_append, HA.out]; simp [ht])
      have HI : Hid (inRun dash b = (alnum b.toNat || (dash && ((b.toNat : Int) == 45)))) := Lib.hid (by rw [inRun, show (b == 45) = ((b.toNat : Int) == 45) from byte_beq b 45 (by decide)])
      clear hb0 HA hgl
      go_wp2_with fail
      refine (alnum_calls b _).mono ?_
      rintro e w1 ⟨rfl, rfl⟩
      cases hb : alnum b.toNat with
      | true =>
        have HR := Lib.hid (HY1.out (by rw [HI.out, hb]; rfl))
        go_wp2
        go_roundw
        case rel => exact ⟨k + 1, by omega, by go_num, by first | rfl | trivial, HR⟩
        case measure => simp [intOf]; omega
      | false => 
        cases dash with
        | false =>
          have HR := Lib.hid (HN.out (by rw [HI.out, hb]; rfl))
          go_wp2
          go_ret
          exact ⟨ret_str (HY.out.trans (by rw [run_eq, HR.out.1])), by rw [run_eq]; dsimp only; rw [HR.out.2]; have := (Step.refl h'.out).set0 (t := s.drop k) HD.out; rw [← HX.out] at this; exact this⟩
        | true =>
          cases hc : ((b.toNat : Int) == 45) with
          | true =>
            have HR := Lib.hid (HY1.out (by rw [HI.out, hb, hc]; rfl))
            go_wp2
            go_roundw
            case rel => exact ⟨k + 1, by omega, by go_num, by first | rfl | trivial, HR⟩
            case measure => simp [intOf]; omega
          | false =>
            have HR := Lib.hid (HN.out (by rw [HI.out, hb, hc]; rfl))
            go_wp2
            go_ret
            exact ⟨ret_str (HY.out.trans (by rw [run_eq, HR.out.1])), by rw [run_eq]; dsimp only; rw [HR.out.2]; have := (Step.refl h'.out).set0 (t := s.drop k) HD.out; rw [← HX.out] at this; exact this⟩
    · have hd : decide (k < s.length) = false := decide_eq_false hlt
      have HR := Lib.hid (tw_of (inRun dash) s k hk HA.out (fun h => absurd h hlt))
      go_wp2
      go_ret
      exact ⟨ret_str (HY.out.trans (by rw [run_eq, HR.out.1])), by rw [run_eq]; dsimp only; rw [HR.out.2]; have := (Step.refl h'.out).set0 (t := s.drop k) HD.out; rw [← HX.out] at this; exact this⟩
end Go.Proofs.YtnplommdgfgboaaGreatDoor.Ref5
