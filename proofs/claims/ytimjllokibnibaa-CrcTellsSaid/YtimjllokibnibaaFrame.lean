/-
  How data that came in is read as my kinds.
-/
import Derived.Test.YtimjllokibnibaaBase
import Derived.ProofKit
import Derived.Deep.Slices
set_option linter.unusedVariables false
set_option linter.unusedSimpArgs false
namespace Go.Proofs.Ytimjllokibnibaa.B
open Go.RowKit Go.ChangeShapes Go.WideShapes Go.Deep

/-- Whatever can be read at a type is a datum of the kind. -/
def Opens {α : Type} (P : Program) (d : Kd α) (t : TypeId) : Prop :=
  ∀ {H : Type} (enc : TypeId × Value → H) (w : World) (fuel : Nat) (cs : List Value) (x : DataW H × List MemPlace), DataW.trod enc P w 0 (fun _ => true) true fuel t cs = some x → ∃ a, d.M w (fun _ => True) a cs
namespace Opens
variable {P : Program} {t e : TypeId}
theorem u8_of {n : Int} (h : (Lit.int .u8 n).wf = true) : ∃ b : UInt8, n = (b.toNat : Int) := by
  simp [Lit.wf, IntKind.min, IntKind.max, IntKind.bits, IntKind.signed] at h
  refine ⟨UInt8.ofNat n.toNat, ?_⟩
  rw [UInt8.toNat_ofNat']
  omega
theorem i64_of {n : Int} (h : (Lit.int .i64 n).wf = true) : -9223372036854775808 ≤ n ∧ n ≤ 9223372036854775807 := by
  simp [Lit.wf, IntKind.min, IntKind.max, IntKind.bits, IntKind.signed] at h
  omega
theorem byte (ht : P.underlying t = some (.int .u8)) : Opens P u8 t := fun enc w fuel cs x h => by
  obtain ⟨n, rfl, _, hw⟩ := DataW.trod_int ht h
  obtain ⟨b, rfl⟩ := u8_of hw
  exact ⟨b, rfl⟩
theorem slice {α : Type} {d : Kd α} (ht : P.underlying t = some (.slice e)) (hc : P.cellsOf e = d.sz) (he : Opens P d e) : Opens P d.sl t := fun enc w fuel cs x h => by
  rcases open_slice ht h with ⟨rfl, _⟩ | ⟨a, len, cap, m, n, D, Pl, rfl, _, hl, hm, hmm, _, hx⟩
  · exact ⟨[], none, 0, rfl, Nat.le_refl _, Nat.zero_le _, fun _ => rfl, Kd.row_nil _ _ _ _⟩
  · rw [if_pos rfl] at hmm
    have key : ∀ n' : Nat, n' ≤ len → ∃ xs : List α, xs.length = n' ∧ ∀ i x, xs[i]? = some x → ∃ cs, d.M w (fun _ => True) x cs ∧ ∀ j u, cs[j]? = some u → w.cell? (a.add (i * d.sz + j)) = some u := by
      intro n'
      induction n' with
      | zero => intro _; exact ⟨[], rfl, fun i x h => by simp at h⟩
      | succ n' ih =>
        intro hn
        obtain ⟨xs, hlx, hxs⟩ := ih (by omega)
        obtain ⟨cs', h1, h2⟩ := hx n' (by omega)
        obtain ⟨y, hy⟩ := he enc w n cs' _ h2
        refine ⟨xs ++ [y], by simp [hlx], fun i x hi => ?_⟩
        by_cases hlt : i < n'
        · rw [List.getElem?_append_left (by omega)] at hi
          exact hxs i x hi
        · rw [List.getElem?_append_right (by omega)] at hi
          have : i - xs.length = 0 := by
            have := (List.getElem?_eq_some_iff.1 hi).1
            simp at this
            omega
          rw [this] at hi
          simp at hi
          subst hi
          obtain rfl : i = n' := by omega
          refine ⟨cs', hy, fun j u hu => ?_⟩
          obtain ⟨_, hlen, hat⟩ := World.cells?_some h1
          have hj : j < P.cellsOf e := by
            have := (List.getElem?_eq_some_iff.1 hu).1
            omega
          have := hat j hj
          rw [hc, B.add_add] at this
          rw [this]
          exact hu
    obtain ⟨xs, hlx, hxs⟩ := key len (Nat.le_refl _)
    subst hlx
    exact ⟨xs, some a, cap, rfl, hl, hm, fun h => (by cases h), fun i x hi => by
      obtain ⟨cs, h1, h2⟩ := hxs i x hi
      exact ⟨a, cs, rfl, trivial, h1, h2⟩⟩
end Opens
end Go.Proofs.Ytimjllokibnibaa.B
