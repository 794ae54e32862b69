/-
  Words for data in memory: kinds of values, rows of them that are read, rows that the call itself has made.
-/
import Derived.WalkKit
import Derived.Maps.AppendAt
import Derived.Lib.Hide
import Derived.Deep.Draws
import Derived.ArgAppend
import Derived.Laws.BytesArg
import Derived.Laws.BytesString
import Derived.Lib.ConvBytes
set_option linter.unusedVariables false
set_option linter.unusedSimpArgs false
namespace Go.Proofs.YtmcoloapiiakbaaGreatDoor.B
open Go.RowKit

theorem ret_int {k : IntKind} {a b : Int} (h : a = b) : Ending.returned (.int k a) = .returned (.int k b) := by rw [h]
theorem ret_bool {a b : Bool} (h : a = b) : Ending.returned (.bool a) = .returned (.bool b) := by rw [h]
theorem add_add (a : Addr) (i j : Nat) : (a.add i).add j = a.add (i + j) := by
  unfold Addr.add
  split <;> split <;> simp_all <;> omega
theorem add_block (a : Addr) (i : Nat) : (a.add i).block = a.block := by unfold Addr.add; split <;> rfl
theorem add_plain (g j : Nat) : (⟨g, 0, none⟩ : Addr).add j = ⟨g, j, none⟩ := by unfold Addr.add; split <;> simp_all
theorem cell_lt {w : World} {a : Addr} {v : Value} (h : w.cell? a = some v) : a.block < w.heap.size := World.block_lt_of_cell? w a h
theorem cell_same {w w1 : World} {a : Addr} {v : Value} (h : w.cell? a = some v) (hm : w1.heap[a.block]? = w.heap[a.block]?) : w1.cell? a = some v := (World.cell?_of_block hm).trans h

theorem bel_alloc {w W : World} (h : Below w.heap.size w W) (o : Obj) : Below w.heap.size w (W.alloc o) := h.alloc h.size o
theorem bel_drew {w W : World} (h : Below w.heap.size w W) : Below w.heap.size w W.drew := h.drew
theorem bel_drewN {w W : World} (h : Below w.heap.size w W) (n : Nat) : Below w.heap.size w (W.drewN n) := ⟨h.os, h.tape, h.output, h.size, h.block⟩
theorem bel_step {w W W' : World} (h : Below w.heap.size w W) (k : Below W.heap.size W W') : Below w.heap.size w W' := h.trans (k.mono h.size)
theorem bel_set {w W : World} (h : Below w.heap.size w W) {g j : Nat} (hg : w.heap.size ≤ g) (u : Value) : Below w.heap.size w (W.setCell ⟨g, j, none⟩ u) := h.setCell hg u

/-- A kind of values: how many cells, and when cells in a world are a datum; 'ok': the blocks that may be led to. -/
structure Kd (α : Type) where
  sz : Nat
  pos : 0 < sz
  M : World → (Nat → Prop) → α → List Value → Prop
  len : ∀ {w ok x cs}, M w ok x cs → cs.length = sz
  one : ∀ {w ok x cs}, M w ok x cs → ∀ u ∈ cs, u.oneCell' = true
  mono : ∀ {w : World} {ok ok' : Nat → Prop} {x cs}, (∀ k, ok k → k < w.heap.size → ok' k) → M w ok x cs → M w ok' x cs
  move : ∀ {w w1 : World} {ok : Nat → Prop} {x cs}, (∀ k, ok k → k < w.heap.size → w1.heap[k]? = w.heap[k]?) → M w ok x cs → M w1 ok x cs

/-- A kind whose values are their cells. -/
def flat {α : Type} (sz : Nat) (pos : 0 < sz) (enc : α → List Value) (hl : ∀ x, (enc x).length = sz) (h1 : ∀ x, ∀ u ∈ enc x, u.oneCell' = true) : Kd α where
  sz := sz
  pos := pos
  M := fun _ _ x cs => cs = enc x
  len := fun h => by rw [h]; exact hl _
  one := fun h => by rw [h]; exact h1 _
  mono := fun _ h => h
  move := fun _ h => h
def byteK : Kd UInt8 := flat 1 (by decide) (fun c => [.int .u8 (c.toNat : Int)]) (fun _ => rfl) (fun _ u hu => by simp at hu; subst hu; rfl)
def runeK : Kd Int := flat 1 (by decide) (fun n => [.int .i32 n]) (fun _ => rfl) (fun _ u hu => by simp at hu; subst hu; rfl)
def boolK : Kd Bool := flat 1 (by decide) (fun n => [.bool n]) (fun _ => rfl) (fun _ u hu => by simp at hu; subst hu; rfl)
/-- A kind whose values are their cells, under a condition. -/
def held {α : Type} (sz : Nat) (pos : 0 < sz) (enc : α → List Value) (fits : α → Prop) (hl : ∀ x, (enc x).length = sz) (h1 : ∀ x, ∀ u ∈ enc x, u.oneCell' = true) : Kd α where
  sz := sz
  pos := pos
  M := fun _ _ x cs => cs = enc x ∧ fits x
  len := fun h => by rw [h.1]; exact hl _
  one := fun h => by rw [h.1]; exact h1 _
  mono := fun _ h => h
  move := fun _ h => h
def strK : Kd ByteArray := held 1 (by decide) (fun n => [.string n]) (fun n => n.size ≤ 140737488355328) (fun _ => rfl) (fun _ u hu => by simp at hu; subst hu; rfl)

theorem u8_lit (l : List UInt8) (i : Nat) (x : UInt8) (h : l[i]? = some x) : (((l.map fun c => Value.int .u8 (c.toNat : Int)).drop (i * 1)).take 1) = [.int .u8 (x.toNat : Int)] := by
  have hi : i < l.length := (List.getElem?_eq_some_iff.1 h).1
  rw [Nat.mul_one, ← List.map_drop, ← List.map_take, List.drop_eq_getElem_cons hi]
  rw [List.getElem?_eq_getElem hi] at h
  cases h
  rfl
def intK : Kd Int := held 1 (by decide) (fun n => [.int .i64 n]) (fun n => -9223372036854775808 ≤ n ∧ n ≤ 9223372036854775807) (fun _ => rfl) (fun _ u hu => by simp at hu; subst hu; rfl)
namespace Kd
variable {α : Type} {d : Kd α} {w w1 : World} {ok ok' : Nat → Prop} {A : Option Addr} {xs ys : List α} {e : TypeId} {base : Nat} {v : Value}

/-- A row of values lies at A. -/
def row (d : Kd α) (w : World) (ok : Nat → Prop) (A : Option Addr) (xs : List α) : Prop :=
  ∀ i x, xs[i]? = some x → ∃ ad cs, A = some ad ∧ ok ad.block ∧ d.M w ok x cs ∧ ∀ j u, cs[j]? = some u → w.cell? (ad.add (i * d.sz + j)) = some u

theorem row_nil (d : Kd α) (w : World) (ok : Nat → Prop) (A : Option Addr) : d.row w ok A [] := fun i x h => by simp at h
theorem row_lt {ad : Addr} {i : Nat} {cs : List Value} (hl : cs.length = d.sz) (h : ∀ j u, cs[j]? = some u → w.cell? (ad.add (i * d.sz + j)) = some u) : ad.block < w.heap.size := by
  have hp := d.pos
  have h0 : cs[0]? = some (cs[0]'(by omega)) := List.getElem?_eq_getElem (by omega)
  have := cell_lt (h 0 _ h0)
  rwa [add_block] at this
theorem row_mono (hok : ∀ k, ok k → k < w.heap.size → ok' k) (h : d.row w ok A xs) : d.row w ok' A xs := fun i x hx => by
  obtain ⟨ad, cs, hA, ho, hM, hc⟩ := h i x hx
  exact ⟨ad, cs, hA, hok _ ho (row_lt (d.len hM) hc), d.mono hok hM, hc⟩
theorem row_move (hm : ∀ k, ok k → k < w.heap.size → w1.heap[k]? = w.heap[k]?) (h : d.row w ok A xs) : d.row w1 ok A xs := fun i x hx => by
  obtain ⟨ad, cs, hA, ho, hM, hc⟩ := h i x hx
  have hlt := row_lt (d.len hM) hc
  exact ⟨ad, cs, hA, ho, d.move hm hM, fun j u hu => cell_same (hc j u hu) (by rw [add_block]; exact hm _ ho hlt)⟩
theorem row_below (h : d.row w ok A xs) (hb : Below w.heap.size w w1) : d.row w1 ok A xs := row_move (fun k _ hk => hb.block k hk) h
theorem M_below {x : α} {cs : List Value} (h : d.M w ok x cs) (hb : Below w.heap.size w w1) : d.M w1 ok x cs := d.move (fun k _ hk => hb.block k hk) h

/-- What is at place i. -/
theorem row_at (h : d.row w ok A xs) {i : Nat} (hi : i < xs.length) : ∃ ad cs, A = some ad ∧ d.M w ok xs[i] cs ∧ ∀ j u, cs[j]? = some u → w.cell? (ad.add (i * d.sz + j)) = some u := by
  obtain ⟨ad, cs, h1, _, h3, h4⟩ := h i xs[i] (List.getElem?_eq_getElem hi)
  exact ⟨ad, cs, h1, h3, h4⟩
/-- The row's address written out. -/
theorem row_addr (h : d.row w ok A xs) (hp : 0 < xs.length) : ∃ b off, A = some ⟨b, off, none⟩ ∧ ok b ∧ b < w.heap.size ∧ ∀ i (hi : i < xs.length), ∃ cs, d.M w ok xs[i] cs ∧ ∀ j u, cs[j]? = some u → w.cell? ⟨b, off + i * d.sz + j, none⟩ = some u := by
  obtain ⟨ad, cs, hA, ho, hM, hc⟩ := h 0 xs[0] (List.getElem?_eq_getElem hp)
  obtain ⟨b, off, spot⟩ := ad
  have hl := d.len hM
  have hpos := d.pos
  have h0 := hc 0 cs[0] (List.getElem?_eq_getElem (by omega))
  rw [Nat.zero_mul, Nat.zero_add, Addr.add_zero'] at h0
  have hs : spot = none := by simpa using World.cell?_spot h0
  subst hs
  refine ⟨b, off, hA, ho, cell_lt h0, fun i hi => ?_⟩
  obtain ⟨ad', cs', hA', _, hM', hc'⟩ := h i xs[i] (List.getElem?_eq_getElem hi)
  rw [hA] at hA'
  cases hA'
  refine ⟨cs', hM', fun j u hu => ?_⟩
  have h2 := hc' j u hu
  rw [Addr.add_lit, ← Nat.add_assoc] at h2
  exact h2
theorem row_old {w0 : World} (h : d.row w0 (fun k => k < w0.heap.size) A xs) (hb : Below w0.heap.size w0 w) : d.row w (fun k => k < w0.heap.size) A xs := row_move (fun k hk _ => hb.block k hk) h
theorem M_old {w0 : World} {x : α} {cs : List Value} (h : d.M w0 (fun k => k < w0.heap.size) x cs) (hb : Below w0.heap.size w0 w) : d.M w (fun k => k < w0.heap.size) x cs := d.move (fun k hk _ => hb.block k hk) h
theorem M_bound {x : α} {cs : List Value} (h : d.M w ok x cs) : d.M w (fun k => k < w.heap.size) x cs := d.mono (fun k _ hk => hk) h
/-- One-cell elements: the row's address written out. -/
theorem row_plain (h1 : d.sz = 1) (h : d.row w ok A xs) (hp : 0 < xs.length) : ∃ b off, A = some ⟨b, off, none⟩ ∧ ok b ∧ ∀ i (hi : i < xs.length), ∃ u, w.cell? ⟨b, off + i, none⟩ = some u ∧ d.M w ok xs[i] [u] := by
  obtain ⟨ad, cs, hA, ho, hM, hc⟩ := h 0 xs[0] (List.getElem?_eq_getElem hp)
  obtain ⟨b, off, spot⟩ := ad
  have hl := d.len hM
  rw [h1] at hl
  obtain ⟨u, rfl⟩ : ∃ u, cs = [u] := by
    match cs, hl with
    | [u], _ => exact ⟨u, rfl⟩
  have h0 := hc 0 u rfl
  rw [Nat.zero_mul, Nat.zero_add, Addr.add_zero'] at h0
  have hs : spot = none := by simpa using World.cell?_spot h0
  subst hs
  refine ⟨b, off, hA, ho, fun i hi => ?_⟩
  obtain ⟨ad', cs', hA', _, hM', hc'⟩ := h i xs[i] (List.getElem?_eq_getElem hi)
  rw [hA] at hA'
  cases hA'
  have hl' := d.len hM'
  rw [h1] at hl'
  obtain ⟨u', rfl⟩ : ∃ u, cs' = [u] := by
    match cs', hl' with
    | [u], _ => exact ⟨u, rfl⟩
  have h2 := hc' 0 u' rfl
  rw [h1, Nat.mul_one, Nat.add_zero, Addr.add_lit] at h2
  exact ⟨u', h2, hM'⟩
theorem row_take (h : d.row w ok A xs) (n : Nat) : d.row w ok A (xs.take n) := fun i x hx => by
  rw [List.getElem?_take] at hx
  split at hx
  · exact h i x hx
  · cases hx
theorem row_drop (h : d.row w ok A xs) (n : Nat) : d.row w ok (A.map (·.add (n * d.sz))) (xs.drop n) := fun i x hx => by
  rw [List.getElem?_drop] at hx
  obtain ⟨ad, cs, hA, ho, hM, hc⟩ := h _ x hx
  refine ⟨ad.add (n * d.sz), cs, by rw [hA]; rfl, by rw [add_block]; exact ho, hM, fun j u hu => ?_⟩
  rw [add_add, ← Nat.add_assoc, ← Nat.add_mul]
  exact hc j u hu

/-- A slice. -/
def sl (d : Kd α) : Kd (List α) where
  sz := 1
  pos := by decide
  M := fun w ok xs cs => ∃ A c, cs = [.slice A xs.length c] ∧ xs.length ≤ c ∧ (xs.length ≤ 140737488355328 ∧ c ≤ maxLen) ∧ (A = none → c = 0) ∧ d.row w ok A xs
  len := fun ⟨_, _, h, _⟩ => by rw [h]; rfl
  one := fun ⟨_, _, h, _⟩ u hu => by rw [h] at hu; simp at hu; subst hu; rfl
  mono := fun hok ⟨A, c, h1, h2, h3, h4, h5⟩ => ⟨A, c, h1, h2, h3, h4, row_mono hok h5⟩
  move := fun hm ⟨A, c, h1, h2, h3, h4, h5⟩ => ⟨A, c, h1, h2, h3, h4, row_move hm h5⟩

/-- A row of the call's own: it lies at the head of a block from 'base' on, which no element leads to. -/
def own (d : Kd α) (e : TypeId) (w : World) (base : Nat) (ok : Nat → Prop) (v : Value) (xs : List α) : Prop :=
  xs.length ≤ 140737488355328 ∧ ∃ cells, w.ownsRow base e d.sz v xs.length cells ∧ ∀ i x, xs[i]? = some x → d.M w (fun k => ok k ∧ some k ≠ v.ownBlock) x ((cells.drop (i * d.sz)).take d.sz)

theorem own_nil (d : Kd α) (e : TypeId) (w : World) (base : Nat) (ok : Nat → Prop) : d.own e w base ok (.slice none 0 0) [] :=
  ⟨by simp, [], World.ownsRow_nil _ _ _ _, fun i x h => by simp at h⟩
theorem own_lt (h : d.own e w base ok v xs) : ∀ k, v.ownBlock = some k → base ≤ k ∧ k < w.heap.size := by
  obtain ⟨_, cells, h1, _⟩ := h
  exact h1.lt
theorem own_mono (hok : ∀ k, ok k → k < w.heap.size → ok' k) (h : d.own e w base ok v xs) : d.own e w base ok' v xs := by
  obtain ⟨h0, cells, h1, h2⟩ := h
  exact ⟨h0, cells, h1, fun i x hx => d.mono (fun k hk hlt => ⟨hok k hk.1 hlt, hk.2⟩) (h2 i x hx)⟩
theorem ownsRow_move {size n : Nat} {cells : List Value} (h : w.ownsRow base e size v n cells) (hm : ∀ k, v.ownBlock = some k → k < w.heap.size → w1.heap[k]? = w.heap[k]?) : w1.ownsRow base e size v n cells := by
  obtain ⟨h1, h2⟩ := h
  refine ⟨h1, ?_⟩
  rcases h2 with h2 | ⟨g, cap, cur, rfl, hg, hh, r⟩
  · exact .inl h2
  · have hlt : g < w.heap.size := (Array.getElem?_eq_some_iff.1 hh).1
    exact .inr ⟨g, cap, cur, rfl, hg, (hm g rfl hlt).trans hh, r⟩
theorem own_move (hm : ∀ k, (ok k ∨ v.ownBlock = some k) → k < w.heap.size → w1.heap[k]? = w.heap[k]?) (h : d.own e w base ok v xs) : d.own e w1 base ok v xs := by
  obtain ⟨h0, cells, h1, h2⟩ := h
  exact ⟨h0, cells, ownsRow_move h1 (fun k hk hlt => hm k (.inr hk) hlt), fun i x hx => d.move (fun k hk hlt => hm k (.inl hk.1) hlt) (h2 i x hx)⟩
theorem own_below (h : d.own e w base ok v xs) (hb : Below w.heap.size w w1) : d.own e w1 base ok v xs := own_move (fun k _ hk => hb.block k hk) h
theorem own_alloc (h : d.own e w base ok v xs) (o : Obj) : d.own e (w.alloc o) base ok v xs := own_below h ((Below.refl _ _).alloc (Nat.le_refl _) o)
theorem own_lower {base' : Nat} (hb : base' ≤ base) (h : d.own e w base ok v xs) : d.own e w base' ok v xs := by
  obtain ⟨h0, cells, ⟨h1, h2⟩, h3⟩ := h
  refine ⟨h0, cells, ⟨h1, ?_⟩, h3⟩
  rcases h2 with h2 | ⟨g, cap, cur, rfl, hg, r⟩
  · exact .inl h2
  · exact .inr ⟨g, cap, cur, rfl, by omega, r⟩
theorem own_drew (h : d.own e w base ok v xs) : d.own e w.drew base ok v xs := own_move (w := w) (w1 := w.drew) (fun _ _ _ => rfl) h
/-- Another row has been written. -/
theorem own_grown {row : Option Nat} (h : d.own e w base ok v xs) (hg : w.grownBy w1 row) (h1 : ∀ k, ok k → some k ≠ row) (h2 : ∀ k, v.ownBlock = some k → some k ≠ row) : d.own e w1 base ok v xs :=
  own_move (fun k hk hlt => hg.block k hlt (hk.elim (h1 k) (h2 k))) h
theorem take_drop_get {cells : List Value} {i s j : Nat} {u : Value} (h : ((cells.drop (i * s)).take s)[j]? = some u) : cells[i * s + j]? = some u := by
  rw [List.getElem?_take] at h
  split at h
  · rwa [List.getElem?_drop] at h
  · cases h
/-- A row of the call's own, read. -/
theorem own_sl (h : d.own e w base ok v xs) (h1 : ∀ k, base ≤ k → ok' k) (h2 : ∀ k, ok k → ok' k) : d.sl.M w ok' xs [v] := by
  obtain ⟨hlen, cells, ho, hr⟩ := h
  rcases ho.2 with ⟨rfl, h0⟩ | ⟨g, cap, cur, rfl, hg, hh, hnc, hcm, hcs, htake⟩
  · obtain rfl : xs = [] := List.eq_nil_of_length_eq_zero h0
    exact ⟨none, 0, rfl, Nat.le_refl _, ⟨hlen, Nat.zero_le _⟩, fun _ => rfl, row_nil _ _ _ _⟩
  · refine ⟨_, cap, rfl, hnc, ⟨hlen, hcm⟩, fun h => (by cases h), fun i x hx => ⟨_, _, rfl, h1 g hg, d.mono (fun k hk _ => h2 k hk.1) (hr i x hx), fun j u hu => ?_⟩⟩
    exact ho.cells rfl _ _ (take_drop_get hu)
theorem own_slice (h : d.own e w base ok v xs) : ∃ A c, v = .slice A xs.length c ∧ xs.length ≤ c ∧ (A = none → c = 0) := by
  obtain ⟨A, c, h1, h2, _, h3, _⟩ := own_sl (ok' := fun _ => True) h (fun _ _ => trivial) (fun _ _ => trivial)
  simp at h1
  exact ⟨A, c, h1, h2, h3⟩
/-- A block that the call has laid. -/
theorem own_block {g : Nat} {cells : List Value} (hb : base ≤ g) (hh : w.heap[g]? = some (.cells cells.toArray e (0, 0))) (hl : cells.length = xs.length * d.sz) (hm : xs.length ≤ 140737488355328)
    (hr : ∀ i x, xs[i]? = some x → d.M w (fun k => ok k ∧ k ≠ g) x ((cells.drop (i * d.sz)).take d.sz)) : d.own e w base ok (.slice (some ⟨g, 0, none⟩) xs.length xs.length) xs := by
  refine ⟨hm, cells, ⟨hl, .inr ⟨g, _, _, rfl, hb, hh, Nat.le_refl _, by unfold maxLen; omega, by simpa using hl, ?_⟩⟩, fun i x hx => d.mono (fun k hk _ => ⟨hk.1, fun e => hk.2 (by simpa [Value.ownBlock] using e)⟩) (hr i x hx)⟩
  show cells.take _ = cells
  rw [List.take_of_length_le (by omega)]

theorem own_form (h : d.own e w base ok v xs) (hp : 0 < xs.length) : ∃ g cap, v = .slice (some ⟨g, 0, none⟩) xs.length cap ∧ base ≤ g ∧ g < w.heap.size ∧ xs.length ≤ cap := by
  obtain ⟨_, cells, ho, hr⟩ := h
  rcases ho.2 with ⟨rfl, h0⟩ | ⟨g, cap, cur, rfl, hg, hh, hnc, hcm, hcs, htake⟩
  · omega
  · exact ⟨g, cap, rfl, hg, (Array.getElem?_eq_some_iff.1 hh).1, hnc⟩
theorem own_frozen {g n cap : Nat} (h : d.own e w base ok (.slice (some ⟨g, 0, none⟩) n cap) xs) (j : Nat) : w.frozen? ⟨g, j, none⟩ = false := by
  obtain ⟨_, cells, ho, _⟩ := h
  rcases ho.2 with ⟨h, _⟩ | ⟨g', cap, cur, he, _, hh, _⟩
  · simp at h
  · simp at he
    obtain ⟨rfl, _⟩ := he
    simp [World.frozen?, hh]
/-- One-cell elements: the cell of one. -/
theorem own_cell (h1 : d.sz = 1) {g n cap : Nat} (h : d.own e w base ok (.slice (some ⟨g, 0, none⟩) n cap) xs) {i : Nat} (hi : i < xs.length) :
    ∃ u, w.cell? ⟨g, i, none⟩ = some u ∧ d.M w (fun k => ok k ∧ k ≠ g) xs[i] [u] := by
  obtain ⟨_, cells, ho, hr⟩ := h
  have hM := hr i xs[i] (List.getElem?_eq_getElem hi)
  have hl := ho.1
  rw [h1, Nat.mul_one] at hl hM
  have hic : i < cells.length := by omega
  have he : (cells.drop i).take 1 = [cells[i]] := by rw [List.drop_eq_getElem_cons hic]; rfl
  rw [he] at hM
  refine ⟨cells[i], ?_, d.mono (fun k hk _ => ⟨hk.1, fun e => hk.2 (by rw [e]; rfl)⟩) hM⟩
  have := ho.cells rfl i cells[i] (List.getElem?_eq_getElem hic)
  rwa [add_plain] at this
/-- A store of a one-cell element. -/
theorem own_set (h1 : d.sz = 1) {g n cap : Nat} (h : d.own e w base ok (.slice (some ⟨g, 0, none⟩) n cap) xs) {i : Nat} (hi : i < xs.length) {x : α} {u : Value} (hM : d.M w (fun k => ok k ∧ k ≠ g) x [u]) :
    d.own e (w.setCell ⟨g, i, none⟩ u) base ok (.slice (some ⟨g, 0, none⟩) n cap) (xs.set i x) := by
  obtain ⟨hlen, cells, ho, hr⟩ := h
  have hl := ho.1
  rw [h1, Nat.mul_one] at hl
  have hmv : ∀ k, (ok k ∧ some k ≠ (Value.slice (some ⟨g, 0, none⟩) n cap).ownBlock) → k < w.heap.size → (w.setCell ⟨g, i, none⟩ u).heap[k]? = w.heap[k]? := fun k hk _ =>
    Below.heap_setCell _ _ _ _ (fun e => hk.2 (by rw [e]; rfl))
  have hst : (w.setCell ⟨g, i, none⟩ u).ownsRow base e d.sz (.slice (some ⟨g, 0, none⟩) n cap) xs.length (cells.set i u) := by
    have hn : n = xs.length := by
      rcases ho.2 with ⟨h0, _⟩ | ⟨g', cap', cur, he, _⟩
      · simp at h0
      · simp at he
        exact he.2.1
    subst hn
    exact (ho.stored i u).1
  refine ⟨by rw [List.length_set]; exact hlen, cells.set i u, by rw [List.length_set]; exact hst, fun j y hj => ?_⟩
  rw [List.getElem?_set] at hj
  have hset : ((cells.set i u).drop j).take 1 = if i = j then [u] else (cells.drop j).take 1 := by
    apply List.ext_getElem?
    intro q
    rw [List.getElem?_take, List.getElem?_drop, List.getElem?_set]
    cases q with
    | zero =>
      by_cases hij : i = j
      · subst hij
        have hic : i < cells.length := by omega
        simp [hic]
      · simp [hij]
    | succ q =>
      have e2 : (if i = j then [u] else (cells.drop j).take 1)[q + 1]? = none := by split <;> simp <;> omega
      rw [if_neg (by omega), e2]
  rw [h1, Nat.mul_one, hset]
  split at hj
  · rename_i hij
    subst hij
    simp [hi] at hj
    subst hj
    rw [if_pos rfl]
    exact d.move hmv (d.mono (fun k hk _ => ⟨hk.1, fun e => hk.2 (by simpa [Value.ownBlock] using e)⟩) hM)
  · rename_i hij
    rw [if_neg hij]
    have h2 := hr j y hj
    rw [h1, Nat.mul_one] at h2
    exact d.move hmv h2

theorem alloc_heap (w : World) (o : Obj) : (w.alloc o).heap = w.heap.push o := rfl
theorem heap_new (w : World) (o : Obj) : (w.alloc o).heap[w.heap.size]? = some o := by
  show (w.heap.push o)[w.heap.size]? = _
  simp
theorem heap_old (w : World) (o : Obj) {k : Nat} {x : Obj} (h : w.heap[k]? = some x) : (w.alloc o).heap[k]? = some x := by
  have hlt : k < w.heap.size := (Array.getElem?_eq_some_iff.1 h).1
  exact (Below.heap_alloc w o k hlt).trans h
/-- Block g holds the cells C. -/
def bi (w : World) (g : Nat) (C : Array Value) : Prop := ∃ e fr, w.heap[g]? = some (.cells C e fr)
theorem bi_new {w : World} {g : Nat} {C : Array Value} {e : TypeId} {fr : Nat × Nat} (h : w.heap.size = g) : bi (w.alloc (.cells C e fr)) g C := ⟨e, fr, by subst h; exact heap_new w _⟩
theorem bi_old {w : World} {g : Nat} {C : Array Value} {o : Obj} (h : bi w g C) : bi (w.alloc o) g C := by
  obtain ⟨e, fr, h⟩ := h
  exact ⟨e, fr, heap_old w o h⟩
theorem bi_drew {w : World} {g : Nat} {C : Array Value} (h : bi w g C) : bi w.drew g C := h
theorem bi_below {w w1 : World} {g : Nat} {C : Array Value} (h : bi w g C) (hb : Below w.heap.size w w1) : bi w1 g C := by
  obtain ⟨e, fr, h⟩ := h
  exact ⟨e, fr, (hb.block g (Array.getElem?_eq_some_iff.1 h).1).trans h⟩
/-- A row that lies at the head of a block. -/
theorem row_block {g : Nat} {C : Array Value} (hh : bi w g C) (hok : ok g)
    (hr : ∀ i x, xs[i]? = some x → d.M w ok x ((C.toList.drop (i * d.sz)).take d.sz)) : d.row w ok (some ⟨g, 0, none⟩) xs := fun i x hx => by
  obtain ⟨e, fr, hh⟩ := hh
  refine ⟨_, _, rfl, hok, hr i x hx, fun j u hu => ?_⟩
  have := take_drop_get hu
  rw [add_plain, World.cell?, hh]
  simpa using this
theorem row_one {g : Nat} {C : Array Value} {x : α} (hh : bi w g C) (hok : ok g) (hM : d.M w ok x C.toList) : d.row w ok (some ⟨g, 0, none⟩) [x] :=
  row_block hh hok (fun i y hy => by
    cases i with
    | zero =>
      simp at hy
      subst hy
      rw [Nat.zero_mul, List.drop_zero, List.take_of_length_le (by rw [d.len hM]; exact Nat.le_refl _)]
      exact hM
    | succ i => simp at hy)
theorem row_two {g : Nat} {C : Array Value} {x y : α} {c1 c2 : List Value} (hh : bi w g C) (hok : ok g) (hC : C.toList = c1 ++ c2) (hM : d.M w ok x c1) (hN : d.M w ok y c2) : d.row w ok (some ⟨g, 0, none⟩) [x, y] :=
  row_block hh hok (fun i z hz => by
    have h1 := d.len hM
    have h2 := d.len hN
    match i, hz with
    | 0, hz =>
      simp at hz
      subst hz
      rw [hC, Nat.zero_mul, List.drop_zero, ← h1, List.take_left]
      exact hM
    | 1, hz =>
      simp at hz
      subst hz
      rw [hC, Nat.one_mul, ← h1, List.drop_left, h1, ← h2, List.take_length]
      exact hN
    | i + 2, hz => simp at hz)

theorem row_u8 {g : Nat} {C : Array Value} {l : List UInt8} (hh : bi w g C) (hok : ok g) (hC : C.toList = l.map fun c => Value.int .u8 (c.toNat : Int)) : byteK.row w ok (some ⟨g, 0, none⟩) l :=
  row_block hh hok fun i x hx => by rw [hC]; exact u8_lit _ i x hx
theorem u8_sl {A : Option Addr} {c : Nat} {l : List UInt8} (h1 : l.length ≤ c) (h2 : l.length ≤ 140737488355328 ∧ c ≤ maxLen) (h3 : A = none → c = 0) (h : byteK.row w ok A l) : byteK.sl.M w ok l [.slice A l.length c] := ⟨A, c, rfl, h1, h2, h3, h⟩

theorem replicate_take {z : Value} {n i : Nat} (h : i < n) : ((List.replicate n z).drop i).take 1 = [z] := by
  rw [List.drop_replicate, List.take_replicate]
  rw [show min 1 (n - i) = 1 by omega]
  rfl
/-- make([]T, n), T of one cell. -/
theorem own_make {x : α} {z : Value} {n : Nat} (hn : n ≤ 140737488355328) (h1 : d.sz = 1) (hz : ∀ w ok, d.M w ok x [z]) (h : w.ownsRow base e 1 v n (List.replicate (n * 1) z)) : d.own e w base ok v (List.replicate n x) := by
  rw [Nat.mul_one] at h
  refine ⟨by simpa using hn, List.replicate n z, by rw [h1, List.length_replicate]; exact h, fun i y hy => ?_⟩
  have hi : i < n := by have := (List.getElem?_eq_some_iff.1 hy).1; simpa using this
  rw [List.getElem?_replicate, if_pos hi] at hy
  cases hy
  rw [h1, Nat.mul_one, replicate_take hi]
  exact hz _ _

section app
variable {P : Program} {W w0 : World} {ops : Array Oper} {rest : List Oper} {o : Oper} {a : Act} {Q : Exit → Act → World → Prop}

theorem flat_get {f : Nat → List Value} {s : Nat} : ∀ (n : Nat), (∀ i, i < n → (f i).length = s) → ((List.range n).flatMap f).length = n * s := by
  intro n
  induction n with
  | zero => intro _; simp
  | succ n ih =>
    intro h
    rw [List.range_succ, List.flatMap_append, List.length_append, ih (fun i hi => h i (by omega)), List.flatMap_cons, List.flatMap_nil, List.append_nil, h n (by omega), Nat.succ_mul]
theorem flat_at {f : Nat → List Value} {s : Nat} : ∀ (n : Nat), (∀ i, i < n → (f i).length = s) → ∀ i j, i < n → j < s → ((List.range n).flatMap f)[i * s + j]? = (f i)[j]? := by
  intro n
  induction n with
  | zero => intro _ i j hi; omega
  | succ n ih =>
    intro h i j hi hj
    have hl := flat_get n (fun i hi => h i (by omega))
    rw [List.range_succ, List.flatMap_append, List.flatMap_cons, List.flatMap_nil, List.append_nil]
    by_cases hin : i < n
    · have : i * s + j < n * s := by
        have := Nat.mul_le_mul_right s (show i + 1 ≤ n from hin)
        rw [Nat.succ_mul] at this
        omega
      rw [List.getElem?_append_left (by omega)]
      exact ih (fun i hi => h i (by omega)) i j hin hj
    · obtain rfl : i = n := by omega
      rw [List.getElem?_append_right (by omega), hl, Nat.add_sub_cancel_left]

/-- The cells of a row, one behind the other. -/
theorem row_cells {okE : Nat → Prop} {ad : Addr} {ys : List α} (h : ∀ i x, ys[i]? = some x → ∃ cs, d.M W okE x cs ∧ ∀ j u, cs[j]? = some u → W.cell? (ad.add (i * d.sz + j)) = some u) :
    ∃ news : List Value, news.length = ys.length * d.sz ∧ (∀ j u, news[j]? = some u → W.cell? (ad.add j) = some u) ∧ (∀ u ∈ news, u.oneCell' = true) ∧
      ∀ i x, ys[i]? = some x → d.M W okE x ((news.drop (i * d.sz)).take d.sz) := by
  have hc : ∀ i : Nat, ∃ cs : List Value, i < ys.length → (∀ x, ys[i]? = some x → d.M W okE x cs ∧ ∀ j u, cs[j]? = some u → W.cell? (ad.add (i * d.sz + j)) = some u) := by
    intro i
    by_cases hi : i < ys.length
    · obtain ⟨cs, h1⟩ := h i ys[i] (List.getElem?_eq_getElem hi)
      refine ⟨cs, fun _ x hx => ?_⟩
      rw [List.getElem?_eq_getElem hi] at hx
      cases hx
      exact h1
    · exact ⟨[], fun h => absurd h hi⟩
  let f := fun i => Classical.choose (hc i)
  have hf : ∀ i (hi : i < ys.length), d.M W okE ys[i] (f i) ∧ ∀ j u, (f i)[j]? = some u → W.cell? (ad.add (i * d.sz + j)) = some u :=
    fun i hi => Classical.choose_spec (hc i) hi _ (List.getElem?_eq_getElem hi)
  have hfl : ∀ i, i < ys.length → (f i).length = d.sz := fun i hi => d.len (hf i hi).1
  have hp := d.pos
  have hlen := flat_get ys.length hfl
  have hget : ∀ i x, ys[i]? = some x → (((List.range ys.length).flatMap f).drop (i * d.sz)).take d.sz = f i := by
    intro i x hx
    have hi : i < ys.length := (List.getElem?_eq_some_iff.1 hx).1
    apply List.ext_getElem?
    intro j
    rw [List.getElem?_take, List.getElem?_drop]
    by_cases hj : j < d.sz
    · rw [if_pos hj, flat_at ys.length hfl i j hi hj]
    · rw [if_neg hj, List.getElem?_eq_none (by rw [hfl i hi]; omega)]
  refine ⟨(List.range ys.length).flatMap f, hlen, fun j u hu => ?_, fun u hu => ?_, fun i x hx => ?_⟩
  · have hj : j < ys.length * d.sz := by
      have := (List.getElem?_eq_some_iff.1 hu).1
      omega
    have hq : j / d.sz < ys.length := (Nat.div_lt_iff_lt_mul hp).2 hj
    have hr : j % d.sz < d.sz := Nat.mod_lt _ hp
    have he : j / d.sz * d.sz + j % d.sz = j := by rw [Nat.mul_comm]; exact Nat.div_add_mod j d.sz
    rw [← he, flat_at ys.length hfl _ _ hq hr] at hu
    have := (hf _ hq).2 _ _ hu
    rwa [he] at this
  · obtain ⟨i, hi, hu⟩ := List.mem_flatMap.1 hu
    exact d.one (hf i (List.mem_range.1 hi)).1 u hu
  · rw [hget i x hx]
    have hi : i < ys.length := (List.getElem?_eq_some_iff.1 hx).1
    have := (hf i hi).1
    rw [List.getElem?_eq_getElem hi] at hx
    cases hx
    exact this

/-- What an append does, as a run. -/
theorem own_run (d : Kd α) (base : Nat) (t ty e : TypeId) (z : Value) (bytes : Nat) (ht : P.underlying t = some (.slice e)) (hinfo : (P.info? e).map (fun i => (i.zero, i.size, i.bytes)) = some (some z, d.sz, bytes))
    (hz : z.cells.size = d.sz) (v : Value) (xs ys : List α) (A : Option Addr) (c : Nat) (ok : Nat → Prop) (HO : d.own e W base ok v xs)
    (HR : ∀ i y, ys[i]? = some y → ∃ ad cs, A = some ad ∧ d.M W (fun k => ok k ∧ some k ≠ v.ownBlock) y cs ∧ ∀ j u, cs[j]? = some u → W.cell? (ad.add (i * d.sz + j)) = some u)
    (hA : A = none → c = 0 ∧ ys = []) (HB : Below base w0 W) (hbase : base ≤ W.heap.size) (hl : (xs.length + ys.length) * bytes ≤ 140737488355328) (hb0 : 0 < bytes) :
    ∃ v1 w1, (Builtin.append_ #[t, t] ty #[v, .slice A ys.length c]).run P W = .ok v1 w1 ∧ d.own e w1 base ok v1 (xs ++ ys) ∧ Below base w0 w1 ∧ W.grownBy w1 v.ownBlock ∧
      (v1.ownBlock = v.ownBlock ∨ v1.ownBlock = some W.heap.size) := by
  obtain ⟨i, hi, hz0, hz1, hz2⟩ := info_parts hinfo
  obtain ⟨hlx, cells, ho, hr⟩ := HO
  cases A with
  | none =>
    obtain ⟨rfl, rfl⟩ := hA rfl
    have hrun := run_append_owned_none (P := P) (w := W) base t ty e i d.sz ht hi v _ _ ho
    exact ⟨v, W, hrun, by rw [List.append_nil]; exact ⟨hlx, cells, ho, hr⟩, HB, World.grownBy.refl _ _, .inl rfl⟩
  | some ad =>
    obtain ⟨news, hnl, hnc, hn1, hnM⟩ := row_cells (W := W) (d := d) (ad := ad) (ys := ys) (okE := fun k => ok k ∧ some k ≠ v.ownBlock) (fun i y hy => by
      obtain ⟨ad', cs, h1, h2, h3⟩ := HR i y hy
      cases h1
      exact ⟨cs, h2, h3⟩)
    have h63 : xs.length + ys.length ≤ maxLen := by
      have : xs.length + ys.length ≤ (xs.length + ys.length) * bytes := Nat.le_mul_of_pos_right _ hb0
      unfold maxLen
      omega
    obtain ⟨v1, w1, hrun, h2, h3, _, h5⟩ := run_append_own_at (P := P) W base t ty e i z d.sz bytes ht hi hz0 hz1 hz2 hz d.pos v _ _ ho ad ys.length c news hnl hnc hn1 h63 hl hbase
    have hlt : ∀ k, v.ownBlock = some k → base ≤ k ∧ k < W.heap.size := ho.lt
    have hl47 : (xs ++ ys).length ≤ 140737488355328 := by
      have : xs.length + ys.length ≤ (xs.length + ys.length) * bytes := Nat.le_mul_of_pos_right _ hb0
      rw [List.length_append]
      omega
    refine ⟨v1, w1, hrun, ⟨hl47, cells ++ news, by rw [List.length_append]; exact h2, fun i x hx => ?_⟩, HB.grown h3 hbase (fun k hk => (hlt k hk).1), h3, h5⟩
    have hMold : d.M W (fun k => ok k ∧ some k ≠ v.ownBlock) x (((cells ++ news).drop (i * d.sz)).take d.sz) := by
      have hcl : cells.length = xs.length * d.sz := ho.1
      by_cases hix : i < xs.length
      · have h0 : xs[i]? = some x := by rwa [List.getElem?_append_left hix] at hx
        have hle : i * d.sz + d.sz ≤ cells.length := by
          rw [hcl, ← Nat.succ_mul]; exact Nat.mul_le_mul_right _ hix
        have : ((cells ++ news).drop (i * d.sz)).take d.sz = (cells.drop (i * d.sz)).take d.sz := by
          rw [List.drop_append_of_le_length (by omega), List.take_append_of_le_length (by rw [List.length_drop]; omega)]
        rw [this]
        exact hr i x h0
      · have h0 : ys[i - xs.length]? = some x := by rwa [List.getElem?_append_right (by omega)] at hx
        have hge : xs.length * d.sz ≤ i * d.sz := Nat.mul_le_mul_right _ (by omega)
        have : ((cells ++ news).drop (i * d.sz)).take d.sz = (news.drop ((i - xs.length) * d.sz)).take d.sz := by
          rw [List.drop_append, List.drop_of_length_le (by omega), List.nil_append, hcl, Nat.sub_mul]
        rw [this]
        exact hnM _ x h0
    have hm1 : ∀ k, (ok k ∧ some k ≠ v.ownBlock) → k < W.heap.size → w1.heap[k]? = W.heap[k]? := fun k hk hlt => h3.block k hlt hk.2
    have hM1 := d.move hm1 (d.mono (ok' := fun k => (ok k ∧ some k ≠ v.ownBlock) ∧ k < W.heap.size) (fun k hk hlt => ⟨hk, hlt⟩) hMold |> d.mono (ok' := fun k => ok k ∧ some k ≠ v.ownBlock) (fun k hk _ => hk.1))
    have hM2 : d.M w1 (fun k => (ok k ∧ some k ≠ v.ownBlock) ∧ k < W.heap.size) x (((cells ++ news).drop (i * d.sz)).take d.sz) :=
      d.move (fun k hk hlt => h3.block k hlt hk.1.2) (d.mono (fun k hk hlt => ⟨hk, hlt⟩) hMold)
    refine d.mono (fun k hk _ => ⟨hk.1.1, ?_⟩) hM2
    rcases h5 with h5 | h5
    · rw [h5]; exact hk.1.2
    · rw [h5]
      intro he
      have : k = W.heap.size := by simpa using he
      omega

/-- At the append of a row. -/
theorem own_app (d : Kd α) (base : Nat) (hgd : o.guard = none) (s x : Operand) (t e : TypeId) (z : Value) (bytes : Nat)
    (ho : o.op = .call { callee := .builtin .append, args := #[s, x], argTypes := #[t, t] })
    (ht : P.underlying t = some (.slice e)) (hinfo : (P.info? e).map (fun i => (i.zero, i.size, i.bytes)) = some (some z, d.sz, bytes)) (hz : z.cells.size = d.sz) (hb0 : 0 < bytes)
    (v : Value) (xs ys : List α) (A : Option Addr) (c : Nat) (ok : Nat → Prop) (hs : a.eval s = v) (hx : a.eval x = .slice A ys.length c)
    (HO : d.own e W base ok v xs) (HR : d.sl.M W (fun k => ok k ∧ some k ≠ v.ownBlock) ys [.slice A ys.length c] ∨ d.sl.M W (fun _ => True) ys [.slice A ys.length c] ∧ ∀ w ok ok' x cs, d.M w ok x cs → d.M w ok' x cs)
    (HB : Below base w0 W) (hbase : base ≤ W.heap.size) (hl : (xs.length + ys.length) * bytes ≤ 140737488355328)
    (h : ∀ v1 w1, d.own e w1 base ok v1 (xs ++ ys) → Below base w0 w1 → W.grownBy w1 v.ownBlock → (v1.ownBlock = v.ownBlock ∨ v1.ownBlock = some W.heap.size) → wpList P ops Q rest (a.put o.dst v1) w1) :
    wpList P ops Q (o :: rest) a W := by
  have key : (∀ i y, ys[i]? = some y → ∃ ad cs, A = some ad ∧ d.M W (fun k => ok k ∧ some k ≠ v.ownBlock) y cs ∧ ∀ j u, cs[j]? = some u → W.cell? (ad.add (i * d.sz + j)) = some u) ∧ (A = none → c = 0 ∧ ys = []) := by
    have nil : ∀ {A' c'}, [Value.slice A ys.length c] = [.slice A' ys.length c'] → A = A' ∧ c = c' := fun he => by simp at he; exact he
    rcases HR with ⟨A', c', he, h1, _, h3, h4⟩ | ⟨⟨A', c', he, h1, _, h3, h4⟩, hany⟩ <;> obtain ⟨rfl, rfl⟩ := nil he
    · exact ⟨fun i y hy => by obtain ⟨ad, cs, a1, _, a3, a4⟩ := h4 i y hy; exact ⟨ad, cs, a1, a3, a4⟩, fun hA => ⟨h3 hA, List.eq_nil_of_length_eq_zero (by have := h3 hA; omega)⟩⟩
    · exact ⟨fun i y hy => by obtain ⟨ad, cs, a1, _, a3, a4⟩ := h4 i y hy; exact ⟨ad, cs, a1, hany _ _ _ _ _ a3, a4⟩, fun hA => ⟨h3 hA, List.eq_nil_of_length_eq_zero (by have := h3 hA; omega)⟩⟩
  obtain ⟨v1, w1, hr, h1, h2, h3, h4⟩ := own_run (P := P) (w0 := w0) d base t o.type e z bytes ht hinfo hz v xs ys A c ok HO key.1 key.2 HB hbase hl hb0
  refine wpList_plain hgd fun K hK => ?_
  unfold Oper.wp execOp
  simp only [ho, resolve, invoke, builtin, Sem.run_bind, Sem.run_pure, Result.andThen_ok, List.map_toArray, List.map_cons, List.map_nil, hs, hx, hr]
  exact hK _ _ (h v1 w1 h1 h2 h3 h4)

/-- The same, at a step of a region that draws. -/
theorem own_app_step (d : Kd α) {K : Act → World → Prop} {E : Prop} (base : Nat) (hgd : o.guard = none) (s x : Operand) (t e : TypeId) (z : Value) (bytes : Nat)
    (ho : o.op = .call { callee := .builtin .append, args := #[s, x], argTypes := #[t, t] })
    (ht : P.underlying t = some (.slice e)) (hinfo : (P.info? e).map (fun i => (i.zero, i.size, i.bytes)) = some (some z, d.sz, bytes)) (hz : z.cells.size = d.sz) (hb0 : 0 < bytes)
    (v : Value) (xs ys : List α) (A : Option Addr) (c : Nat) (ok : Nat → Prop) (hs : a.eval s = v) (hx : a.eval x = .slice A ys.length c)
    (HO : d.own e W base ok v xs) (HR : d.sl.M W (fun k => ok k ∧ some k ≠ v.ownBlock) ys [.slice A ys.length c] ∨ d.sl.M W (fun _ => True) ys [.slice A ys.length c] ∧ ∀ w ok ok' x cs, d.M w ok x cs → d.M w ok' x cs)
    (HB : Below base w0 W) (hbase : base ≤ W.heap.size) (hl : (xs.length + ys.length) * bytes ≤ 140737488355328)
    (h : ∀ v1 w1, d.own e w1 base ok v1 (xs ++ ys) → Below base w0 w1 → W.grownBy w1 v.ownBlock → (v1.ownBlock = v.ownBlock ∨ v1.ownBlock = some W.heap.size) → K (a.put o.dst v1) w1) :
    if Region.wanted o (yielded ops a.tmps) = true then Oper.wp P o a W K Q else E := by
  have hw : Region.wanted o (yielded ops a.tmps) = true := by simp [Region.wanted, hgd]
  rw [if_pos hw]
  have key : (∀ i y, ys[i]? = some y → ∃ ad cs, A = some ad ∧ d.M W (fun k => ok k ∧ some k ≠ v.ownBlock) y cs ∧ ∀ j u, cs[j]? = some u → W.cell? (ad.add (i * d.sz + j)) = some u) ∧ (A = none → c = 0 ∧ ys = []) := by
    have nil : ∀ {A' c'}, [Value.slice A ys.length c] = [.slice A' ys.length c'] → A = A' ∧ c = c' := fun he => by simp at he; exact he
    rcases HR with ⟨A', c', he, h1, _, h3, h4⟩ | ⟨⟨A', c', he, h1, _, h3, h4⟩, hany⟩ <;> obtain ⟨rfl, rfl⟩ := nil he
    · exact ⟨fun i y hy => by obtain ⟨ad, cs, a1, _, a3, a4⟩ := h4 i y hy; exact ⟨ad, cs, a1, a3, a4⟩, fun hA => ⟨h3 hA, List.eq_nil_of_length_eq_zero (by have := h3 hA; omega)⟩⟩
    · exact ⟨fun i y hy => by obtain ⟨ad, cs, a1, _, a3, a4⟩ := h4 i y hy; exact ⟨ad, cs, a1, hany _ _ _ _ _ a3, a4⟩, fun hA => ⟨h3 hA, List.eq_nil_of_length_eq_zero (by have := h3 hA; omega)⟩⟩
  obtain ⟨v1, w1, hr, h1, h2, h3, h4⟩ := own_run (P := P) (w0 := w0) d base t o.type e z bytes ht hinfo hz v xs ys A c ok HO key.1 key.2 HB hbase hl hb0
  unfold Oper.wp execOp
  simp only [ho, resolve, invoke, builtin, Sem.run_bind, Sem.run_pure, Result.andThen_ok, List.map_toArray, List.map_cons, List.map_nil, hs, hx, hr]
  exact h v1 w1 h1 h2 h3 h4

/-- At the append of one value, which the translation lays into a new block first. -/
theorem own_app1 (d : Kd α) (base : Nat) (hgd : o.guard = none) (s x : Operand) (t e : TypeId) (z : Value) (bytes : Nat)
    (ho : o.op = .call { callee := .builtin .append, args := #[s, x], argTypes := #[t, t] })
    (ht : P.underlying t = some (.slice e)) (hinfo : (P.info? e).map (fun i => (i.zero, i.size, i.bytes)) = some (some z, d.sz, bytes)) (hz : z.cells.size = d.sz) (hb0 : 0 < bytes)
    (v : Value) (xs : List α) (y : α) (cs : List Value) (ok : Nat → Prop) (hs : a.eval s = v) (hx : a.eval x = .slice (some ⟨W.heap.size, 0, none⟩) 1 1)
    (HO : d.own e W base ok v xs) (HM : d.M W (fun k => ok k ∧ some k ≠ v.ownBlock) y cs)
    (HB : Below base w0 W) (hbase : base ≤ W.heap.size) (hl : (xs.length + 1) * bytes ≤ 140737488355328)
    (h : ∀ v1 w1, d.own e w1 base ok v1 (xs ++ [y]) → Below base w0 w1 → W.grownBy w1 v.ownBlock → (v1.ownBlock = v.ownBlock ∨ ∃ b, v1.ownBlock = some b ∧ W.heap.size ≤ b) → wpList P ops Q rest (a.put o.dst v1) w1) :
    wpList P ops Q (o :: rest) a (W.alloc (.cells cs.toArray e)) := by
  have hbel : Below W.heap.size W (W.alloc (.cells cs.toArray e)) := (Below.refl _ _).alloc (Nat.le_refl _) _
  have hcl := d.len HM
  have hh : (W.alloc (.cells cs.toArray e)).heap[W.heap.size]? = some (.cells cs.toArray e (0, 0)) := by
    show (W.heap.push _)[W.heap.size]? = _
    simp
  obtain ⟨v1, w1, hr, h1, h2, h3, h4⟩ := own_run (P := P) (w0 := w0) (W := W.alloc (.cells cs.toArray e)) d base t o.type e z bytes ht hinfo hz v xs [y] (some ⟨W.heap.size, 0, none⟩) 1 ok (own_alloc HO _)
    (fun i q hq => by
      have : i = 0 ∧ q = y := by
        cases i with
        | zero => simp at hq; exact ⟨rfl, hq.symm⟩
        | succ i => simp at hq
      obtain ⟨rfl, rfl⟩ := this
      refine ⟨_, cs, rfl, M_below HM hbel, fun j u hu => ?_⟩
      rw [Nat.zero_mul, Nat.zero_add, add_plain]
      rw [World.cell?, hh]
      simpa using hu)
    (fun h => by cases h) (HB.alloc hbase _) (by have := hbel.size; omega) hl hb0
  refine wpList_plain hgd fun K hK => ?_
  unfold Oper.wp execOp
  have hr' : (Builtin.append_ #[t, t] o.type #[v, .slice (some ⟨W.heap.size, 0, none⟩) 1 1]).run P (W.alloc (.cells cs.toArray e)) = .ok v1 w1 := hr
  simp only [ho, resolve, invoke, builtin, Sem.run_bind, Sem.run_pure, Result.andThen_ok, List.map_toArray, List.map_cons, List.map_nil, hs, hx, hr']
  refine hK _ _ (h v1 w1 h1 h2 ⟨h3.os.trans hbel.os, h3.tape.trans hbel.tape, h3.output.trans hbel.output, Nat.le_trans hbel.size h3.size, fun k hk hne => (h3.block k (by have := hbel.size; omega) hne).trans (hbel.block k hk)⟩ ?_)
  rcases h4 with h4 | h4
  · exact .inl h4
  · exact .inr ⟨_, h4, hbel.size⟩
end app

section more
variable {P : Program} {W : World} {ops : Array Oper} {rest : List Oper} {o : Oper} {a : Act} {Q : Exit → Act → World → Prop}

/-- A new row behind one that came in and has no room. -/
theorem own_grow (d : Kd α) (hgd : o.guard = none) (s x : Operand) (t e : TypeId) (z : Value) (bytes : Nat)
    (ho : o.op = .call { callee := .builtin .append, args := #[s, x], argTypes := #[t, t] })
    (ht : P.underlying t = some (.slice e)) (hinfo : (P.info? e).map (fun i => (i.zero, i.size, i.bytes)) = some (some z, d.sz, bytes)) (hz : z.cells.size = d.sz) (hb0 : 0 < bytes)
    (xs ys : List α) (Ax A : Option Addr) (cx c : Nat) (ok : Nat → Prop) (hs : a.eval s = .slice Ax xs.length cx) (hx : a.eval x = .slice A ys.length c)
    (HX : d.sl.M W ok xs [.slice Ax xs.length cx]) (HY : d.sl.M W ok ys [.slice A ys.length c]) (hfull : cx < xs.length + ys.length) (hy : 0 < ys.length)
    (hl : (xs.length + ys.length) * bytes ≤ 140737488355328)
    (h : ∀ v1 w1, d.own e w1 W.heap.size ok v1 (xs ++ ys) → Below W.heap.size W w1 → wpList P ops Q rest (a.put o.dst v1) w1) :
    wpList P ops Q (o :: rest) a W := by
  obtain ⟨i, hi, hz0, hz1, hz2⟩ := info_parts hinfo
  have nil : ∀ {n : Nat} {A A' : Option Addr} {c c' : Nat}, [Value.slice A n c] = [.slice A' n c'] → A = A' ∧ c = c' := fun he => by simp at he; exact he
  obtain ⟨A1, c1, he1, g1, _, g3, g4⟩ := HX
  obtain ⟨rfl, rfl⟩ := nil he1
  obtain ⟨A2, c2, he2, k1, _, k3, k4⟩ := HY
  obtain ⟨rfl, rfl⟩ := nil he2
  obtain ⟨ay, rfl⟩ : ∃ ay, A = some ay := by
    obtain ⟨ad, cs, h1, _⟩ := row_at k4 hy
    exact ⟨ad, h1⟩
  have rows : ∀ {zs : List α} {B : Option Addr} (bd : Addr), d.row W ok B zs → (zs = [] ∨ B = some bd) → ∃ news : List Value, news.length = zs.length * d.sz ∧ (∀ j u, news[j]? = some u → W.cell? (bd.add j) = some u) ∧ (∀ u ∈ news, u.oneCell' = true) ∧
      ∀ i x, zs[i]? = some x → d.M W ok x ((news.drop (i * d.sz)).take d.sz) := by
    intro zs B bd hr hB
    refine row_cells (W := W) (d := d) (ad := bd) (ys := zs) (okE := ok) (fun i y hy => ?_)
    obtain ⟨ad', cs, h1, _, h2, h3⟩ := hr i y hy
    rcases hB with rfl | rfl
    · simp at hy
    · cases h1
      exact ⟨cs, h2, h3⟩
  obtain ⟨news, hnl, hnc, hn1, hnM⟩ := rows ay k4 (.inr rfl)
  obtain ⟨bx, hbx⟩ : ∃ bx : Addr, xs = [] ∨ Ax = some bx := by
    cases Ax with
    | some b => exact ⟨b, .inr rfl⟩
    | none => exact ⟨⟨0, 0, none⟩, .inl (List.eq_nil_of_length_eq_zero (by have := g3 rfl; omega))⟩
  obtain ⟨olds, hol, hoc, ho1, hoM⟩ := rows bx g4 hbx
  have h63 : xs.length + ys.length ≤ maxLen := by
    have : xs.length + ys.length ≤ (xs.length + ys.length) * bytes := Nat.le_mul_of_pos_right _ hb0
    unfold maxLen
    omega
  have h47 : (xs ++ ys).length ≤ 140737488355328 := by
    have : xs.length + ys.length ≤ (xs.length + ys.length) * bytes := Nat.le_mul_of_pos_right _ hb0
    rw [List.length_append]
    omega
  refine wpList_append_grows W hgd s x t ho e i z d.sz bytes ht hi hz0 hz1 hz2 hz d.pos Ax xs.length cx olds hs (fun h0 => ⟨by have := g3 h0; omega, g3 h0⟩) hol (fun b hb j u hu => ?_) ay ys.length c news hx hnl hnc hn1 hfull h63 hl (fun v1 w1 hown hg => ?_)
  · rcases hbx with rfl | hbx
    · rw [List.length_nil, Nat.zero_mul] at hol
      rw [List.eq_nil_of_length_eq_zero hol] at hu
      simp at hu
    · rw [hb] at hbx
      cases hbx
      exact hoc j u hu
  · have hbel : Below W.heap.size W w1 := (Below.refl _ _).grown hg (Nat.le_refl _) (fun k hk => by cases hk)
    refine h v1 w1 ⟨h47, olds ++ news, by rw [List.length_append]; exact hown, fun i x hx => ?_⟩ hbel
    have hM : d.M W ok x (((olds ++ news).drop (i * d.sz)).take d.sz) := by
      by_cases hix : i < xs.length
      · have h0 : xs[i]? = some x := by rwa [List.getElem?_append_left hix] at hx
        have hle : i * d.sz + d.sz ≤ olds.length := by
          rw [hol, ← Nat.succ_mul]; exact Nat.mul_le_mul_right _ hix
        rw [List.drop_append_of_le_length (by omega), List.take_append_of_le_length (by rw [List.length_drop]; omega)]
        exact hoM i x h0
      · have h0 : ys[i - xs.length]? = some x := by rwa [List.getElem?_append_right (by omega)] at hx
        have hge : xs.length * d.sz ≤ i * d.sz := Nat.mul_le_mul_right _ (by omega)
        have : ((olds ++ news).drop (i * d.sz)).take d.sz = (news.drop ((i - xs.length) * d.sz)).take d.sz := by
          rw [List.drop_append, List.drop_of_length_le (by omega), List.nil_append, hol, Nat.sub_mul]
        rw [this]
        exact hnM _ x h0
    have hM2 : d.M w1 (fun k => ok k ∧ k < W.heap.size) x (((olds ++ news).drop (i * d.sz)).take d.sz) :=
      d.move (fun k hk hlt => hbel.block k hk.2) (d.mono (fun k hk hlt => ⟨hk, hlt⟩) hM)
    refine d.mono (fun k hk _ => ⟨hk.1, fun he => ?_⟩) hM2
    have := (hown.lt k he.symm).1
    omega

/-- A part of a slice: where it begins is told by one name. -/
theorem cut_run (d : Kd α) (t e : TypeId) (ht : P.underlying t = some (.slice e)) (hsz : P.cellsOf e = d.sz) (z : Value) (bytes : Nat) (hinfo : (P.info? e).map (fun i => (i.zero, i.size, i.bytes)) = some (some z, d.sz, bytes))
    (A : Option Addr) (n c : Nat) (lo hi : Nat) (h1 : lo ≤ hi) (h2 : hi ≤ n) (hc : n ≤ c) (h47 : n ≤ 140737488355328 ∧ c ≤ maxLen) (hA : A = none → c = 0) :
    ∃ A' : Option Addr, (∀ (kl kh : IntKind) (w : World), (Instr.slice t (.slice A n c) (some (.int kl (lo : Int))) (some (.int kh (hi : Int))) none).run P w = .ok (.slice A' (hi - lo) (c - lo)) w) ∧
      (∀ (kl : IntKind) (w : World), hi = n → (Instr.slice t (.slice A n c) (some (.int kl (lo : Int))) none none).run P w = .ok (.slice A' (hi - lo) (c - lo)) w) ∧
      (∀ (kh : IntKind) (w : World), lo = 0 → (Instr.slice t (.slice A n c) none (some (.int kh (hi : Int))) none).run P w = .ok (.slice A' (hi - lo) (c - lo)) w) ∧
      ∀ (w : World) (ok : Nat → Prop) (xs : List α), xs.length = n → d.row w ok A xs → d.sl.M w ok ((xs.take hi).drop lo) [.slice A' (hi - lo) (c - lo)] := by
  obtain ⟨i, hi', _, hz1, _⟩ := info_parts hinfo
  have hel : P.elem t = e := by simp [Program.elem, ht]
  have hu : P.underlying t = some (.slice (P.elem t)) := by rw [hel]; exact ht
  refine ⟨if c = lo then A else A.map (·.add (lo * d.sz)), fun kl kh w => ?_, fun kl w hn => ?_, fun kh w h0 => ?_, fun w ok xs hx hr => ?_⟩
  · rw [run_slice_lh w t A n c hu kl kh lo hi (by omega) (by omega) (by omega), hel]
    simp [sizeOf, typeInfo, hi', hz1, sliced, Result.andThen]
  · subst hn
    rw [run_slice_l w t A hi c hu kl lo (by omega) (by omega), hel]
    simp [sizeOf, typeInfo, hi', hz1, sliced, Result.andThen]
  · subst h0
    rw [run_slice_h w t A n c hu kh hi (by omega) (by omega), hel]
    simp [sizeOf, typeInfo, hi', hz1, sliced, Result.andThen]
  · have hlen : ((xs.take hi).drop lo).length = hi - lo := by simp; omega
    refine ⟨_, c - lo, by rw [hlen], by rw [hlen]; omega, ⟨by rw [hlen]; omega, by omega⟩, fun h => ?_, ?_⟩
    · split at h
      · omega
      · cases A with
        | none => have := hA rfl; omega
        | some b => cases h
    · split
      · have : (xs.take hi).drop lo = [] := List.eq_nil_of_length_eq_zero (by omega)
        rw [this]
        exact row_nil _ _ _ _
      · exact row_drop (row_take hr hi) lo
end more
end Kd

/-- A string of bytes. -/
def mkS (l : List UInt8) : ByteArray := ⟨l.toArray⟩
theorem mkS_size (l : List UInt8) : (mkS l).size = l.length := by simp [mkS, ByteArray.size]
theorem mkS_data (l : List UInt8) : (mkS l).data.toList = l := rfl
theorem byte_nums (l : List UInt8) : (l.map fun c => (c.toNat : Int)).map (fun n => UInt8.ofNat n.toNat) = l := by
  rw [List.map_map]
  conv => rhs; rw [← List.map_id l]
  apply List.map_congr_left
  intro c _
  simp
theorem conv_string {P : Program} {w : World} {src dst e : TypeId} {A : Option Addr} {c : Nat} {l : List UInt8} {ok : Nat → Prop} (hs : P.underlying src = some (.slice e)) (he : P.underlying e = some (.int .u8)) (hd : P.underlying dst = some .string)
    (h : byteK.row w ok A l) : (convert src dst (.slice A l.length c)).run P w = .ok (.string (mkS l)) w := by
  rcases A with _ | ad
  · obtain rfl : l = [] := by
      cases l with
      | nil => rfl
      | cons x l =>
        obtain ⟨ad, cs, h1, _⟩ := Kd.row_at h (i := 0) (by simp)
        cases h1
    exact run_convert_bytes_nil w src e hs he 0 c dst hd
  · have hl : (loadCells ad l.length).run P w = .ok ((l.map fun c => (c.toNat : Int)).map (Value.int .u8)).toArray w := by
      have := run_loadCells_list (P := P) w ad ((l.map fun c => (c.toNat : Int)).map (Value.int .u8)) (fun j v hj => by
        have hjl : j < l.length := by
          have := (List.getElem?_eq_some_iff.1 hj).1
          simpa using this
        obtain ⟨ad', cs, h1, h2, h3⟩ := Kd.row_at h hjl
        cases h1
        obtain rfl : cs = [.int .u8 (l[j].toNat : Int)] := h2
        have h4 := h3 0 _ rfl
        rw [List.getElem?_map, List.getElem?_map, List.getElem?_eq_getElem hjl] at hj
        simp at hj
        subst hj
        simpa [byteK, flat] using h4)
      simpa using this
    rw [run_convert_bytes_string w src dst e _ _ c hs he hd, run_bytesToString w ad _ c _ hl, foldl_push_bytes]
    rw [byte_nums]
    simp [mkS, ByteArray.empty, ByteArray.emptyWithCapacity]
    rfl

/-- Two values, one behind the other. -/
def pairK {α β : Type} (a : Kd α) (b : Kd β) : Kd (α × β) where
  sz := a.sz + b.sz
  pos := Nat.lt_of_lt_of_le a.pos (Nat.le_add_right _ _)
  M := fun w ok x cs => ∃ c1 c2, cs = c1 ++ c2 ∧ a.M w ok x.1 c1 ∧ b.M w ok x.2 c2
  len := fun ⟨c1, c2, h, h1, h2⟩ => by rw [h, List.length_append, a.len h1, b.len h2]
  one := fun ⟨c1, c2, h, h1, h2⟩ u hu => by
    rw [h] at hu
    rcases List.mem_append.1 hu with hu | hu
    · exact a.one h1 u hu
    · exact b.one h2 u hu
  mono := fun hok ⟨c1, c2, h, h1, h2⟩ => ⟨c1, c2, h, a.mono hok h1, b.mono hok h2⟩
  move := fun hm ⟨c1, c2, h, h1, h2⟩ => ⟨c1, c2, h, a.move hm h1, b.move hm h2⟩
end Go.Proofs.YtmcoloapiiakbaaGreatDoor.B
