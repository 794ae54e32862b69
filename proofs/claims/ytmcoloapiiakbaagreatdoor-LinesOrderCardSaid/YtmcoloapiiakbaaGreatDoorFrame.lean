/-
  How data that came in is read as my kinds.
-/
import Derived.Test.YtmcoloapiiakbaaGreatDoorBase
import Derived.ProofKit
import Derived.Deep.Slices
import Derived.SizedLaws
set_option linter.unusedVariables false
set_option linter.unusedSimpArgs false
namespace Go.Proofs.YtmcoloapiiakbaaGreatDoor.B
open Go.RowKit Go.ChangeShapes Go.WideShapes Go.Deep

/-- Whatever can be read at a type is a datum of the kind. -/
def Opens {α : Type} (P : Program) (d : Kd α) (t : TypeId) : Prop :=
  ∀ {H : Type} (enc : TypeId × Value → H) (w : World) (fuel : Nat) (cs : List Value) (x : DataW H × List MemPlace), DataW.trod enc P w 0 (fun _ => true) true fuel t cs = some x → (∀ n ∈ DataW.weights P t x.1, n ≤ reachBytes) → ∃ a, d.M w (fun _ => True) a cs
/-- The reach of one argument. -/
theorem weights_of {H : Type} {P : Program} {ts : List TypeId} {ds : List (DataW H)} (h : (DataW.weightsEach P ts ds).all (· ≤ reachBytes) = true) {j : Nat} {t : TypeId} {d : DataW H} (ht : ts[j]? = some t) (hd : ds[j]? = some d) :
    ∀ n ∈ DataW.weights P t d, n ≤ reachBytes := fun n hn => by
  have := List.all_eq_true.1 h n (DataW.weights_mem_each ht hd n hn)
  simpa using this
theorem weights_all {H : Type} {P : Program} {e : TypeId} : ∀ {ds : List (DataW H)} {d : DataW H}, d ∈ ds → ∀ n ∈ DataW.weights P e d, n ∈ DataW.weightsAll P e ds
  | d0 :: ds, d, hd, n, hn => by
    simp only [DataW.weightsAll, List.mem_append]
    rcases List.mem_cons.1 hd with rfl | hd
    · exact .inl hn
    · exact .inr (weights_all hd n hn)
  | [], _, hd, _, _ => by cases hd
namespace Opens
variable {P : Program} {t e : TypeId}
theorem u8_of {n : Int} (h : (Lit.int .u8 n).wf = true) : ∃ b : UInt8, n = (b.toNat : Int) := by
  simp [Lit.wf, IntKind.min, IntKind.max, IntKind.bits, IntKind.signed] at h
  refine ⟨UInt8.ofNat n.toNat, ?_⟩
  rw [UInt8.toNat_ofNat']
  omega
theorem i64_of {n : Int} (h : (Lit.int .i64 n).wf = true) : -9223372036854775808 ≤ n ∧ n ≤ 9223372036854775807 := by
  simp [Lit.wf, IntKind.min, IntKind.max, IntKind.bits, IntKind.signed] at h
  omega
theorem byte (ht : P.underlying t = some (.int .u8)) : Opens P byteK t := fun enc w fuel cs x h _ => by
  obtain ⟨n, rfl, _, hw⟩ := DataW.trod_int ht h
  obtain ⟨b, rfl⟩ := u8_of hw
  exact ⟨b, rfl⟩
theorem slice {α : Type} {d : Kd α} (ht : P.underlying t = some (.slice e)) (hc : P.cellsOf e = d.sz) (hby : 0 < P.bytesOf e) (he : Opens P d e) : Opens P d.sl t := fun enc w fuel cs x h hw => by
  rcases open_slice ht h with ⟨rfl, _⟩ | ⟨a, len, cap, m, n, D, Pl, rfl, _, hl, hm, hmm, hxx, hx⟩
  · exact ⟨[], none, 0, rfl, Nat.le_refl _, ⟨by simp, Nat.zero_le _⟩, fun _ => rfl, Kd.row_nil _ _ _ _⟩
  · rw [if_pos rfl] at hmm
    subst hxx
    simp only [DataW.weights, ht] at hw
    have hlen47 : len ≤ 140737488355328 := by
      have h1 := hw _ List.mem_cons_self
      simp only [List.length_map, List.length_range, reachBytes] at h1
      have h2 : len + (m - len) ≤ (len + (m - len)) * P.bytesOf e := Nat.le_mul_of_pos_right _ hby
      omega
    have hwe : ∀ i, i < len → ∀ n ∈ DataW.weights P e (D i), n ≤ reachBytes := fun i hi n hn =>
      hw n (List.mem_cons_of_mem _ (List.mem_append_left _ (weights_all (List.mem_map.2 ⟨i, List.mem_range.2 hi, rfl⟩) n hn)))
    have key : ∀ n' : Nat, n' ≤ len → ∃ xs : List α, xs.length = n' ∧ ∀ i x, xs[i]? = some x → ∃ cs, d.M w (fun _ => True) x cs ∧ ∀ j u, cs[j]? = some u → w.cell? (a.add (i * d.sz + j)) = some u := by
      intro n'
      induction n' with
      | zero => intro _; exact ⟨[], rfl, fun i x h => by simp at h⟩
      | succ n' ih =>
        intro hn
        obtain ⟨xs, hlx, hxs⟩ := ih (by omega)
        obtain ⟨cs', h1, h2⟩ := hx n' (by omega)
        obtain ⟨y, hy⟩ := he enc w n cs' _ h2 (hwe n' (by omega))
        refine ⟨xs ++ [y], by simp [hlx], fun i x hi => ?_⟩
        by_cases hlt : i < n'
        · rw [List.getElem?_append_left (by omega)] at hi
          exact hxs i x hi
        · rw [List.getElem?_append_right (by omega)] at hi
          have : i - xs.length = 0 := by
            have := (List.getElem?_eq_some_iff.1 hi).1
            simp at this
            omega
          rw [this] at hi
          simp at hi
          subst hi
          obtain rfl : i = n' := by omega
          refine ⟨cs', hy, fun j u hu => ?_⟩
          obtain ⟨_, hlen, hat⟩ := World.cells?_some h1
          have hj : j < P.cellsOf e := by
            have := (List.getElem?_eq_some_iff.1 hu).1
            omega
          have := hat j hj
          rw [hc, B.add_add] at this
          rw [this]
          exact hu
    obtain ⟨xs, hlx, hxs⟩ := key len (Nat.le_refl _)
    subst hlx
    exact ⟨xs, some a, cap, rfl, hl, ⟨hlen47, hm⟩, fun h => (by cases h), fun i x hi => by
      obtain ⟨cs, h1, h2⟩ := hxs i x hi
      exact ⟨a, cs, rfl, trivial, h1, h2⟩⟩
theorem int (ht : P.underlying t = some (.int .i64)) : Opens P intK t := fun enc w fuel cs x h _ => by
  obtain ⟨n, rfl, _, hw⟩ := DataW.trod_int ht h
  exact ⟨n, rfl, i64_of hw⟩
/-- A struct of a number and a row. -/
theorem two {α β : Type} {a : Kd α} {b : Kd β} {f0 f1 : Field} (ht : P.underlying t = some (.struct #[f0, f1])) (h0 : Opens P a f0.type) (h1 : Opens P b f1.type)
    (o0 : f0.offset = 0) (c0 : P.cellsOf f0.type = a.sz) (o1 : f1.offset = a.sz) (c1 : P.cellsOf f1.type = b.sz) (ct : P.cellsOf t = a.sz + b.sz) : Opens P (pairK a b) t := fun enc w fuel cs x h hw => by
  obtain ⟨y0, y1, n, rfl, hl, k0, k1⟩ := trod_struct2 ht h
  simp only [DataW.weights, ht] at hw
  have e : ([f0, f1] : List Field).map (·.type) = [f0.type, f1.type] := rfl
  rw [show (#[f0, f1] : Array Field).toList.map (·.type) = [f0.type, f1.type] from rfl] at hw
  simp only [DataW.weightsEach, List.append_nil] at hw
  rw [o0, c0, List.drop_zero] at k0
  rw [o1, c1] at k1
  obtain ⟨p, hp⟩ := h0 enc w n _ _ k0 (fun m hm => hw m (List.mem_append_left _ hm))
  obtain ⟨q, hq⟩ := h1 enc w n _ _ k1 (fun m hm => hw m (List.mem_append_right _ hm))
  refine ⟨(p, q), _, _, ?_, hp, hq⟩
  have e2 : (cs.drop a.sz).take b.sz = cs.drop a.sz := List.take_of_length_le (by rw [List.length_drop]; omega)
  rw [e2]
  exact (List.take_append_drop _ _).symm
end Opens
end Go.Proofs.YtmcoloapiiakbaaGreatDoor.B
