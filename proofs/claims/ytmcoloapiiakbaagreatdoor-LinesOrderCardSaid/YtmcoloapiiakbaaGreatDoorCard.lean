/-
  What a row that lists Go's tables gives; a world that fits it.
-/
import Derived.Test.YtmcoloapiiakbaaGreatDoorRows
import Derived.Test.YtmcoloapiiakbaaGreatDoorEnv
import Derived.Test.YtmcoloapiiakbaaGreatDoorSB
import Derived.Deep.DeepHandedRow
import Derived.Deep.DeepWitnessRowRef
import Derived.Lib.LaidCaseMet
import Derived.PinnedBridge
set_option linter.unusedVariables false
set_option linter.unusedSimpArgs false
namespace Go.Proofs.YtmcoloapiiakbaaGreatDoor.Card
open Go.Lib Go.Proofs Go.Proofs.YtmcoloapiiakbaaGreatDoor.Env

theorem laidMet_turn {P : Program} {w : World} {n1 n2 n3 : String} {d1 d2 d3 : DataW Unit} (h : laidMet P [(n1, d1), (n2, d2), (n3, d3)] w) : laidMet P [(n1, d1), (n3, d3), (n2, d2)] w := by
  obtain ⟨ps, hv, hn, hall⟩ := h
  obtain ⟨g1, t1, c1, f1, p1, q1, a1, a2, a3, a4, ⟨g2, t2, c2, f2, p2, q2, b1, b2, b3, b4, ⟨g3, t3, c3, f3, p3, q3, e1, e2, e3, e4, he, rfl⟩, rfl⟩, rfl⟩ := hv
  obtain rfl : q3 = [] := he
  simp only [List.append_nil] at hn hall
  refine ⟨_, ⟨g1, t1, c1, f1, p1, _, a1, a2, a3, a4, ⟨g3, t3, c3, f3, p3, _, e1, e2, e3, e4, ⟨g2, t2, c2, f2, p2, [], b1, b2, b3, b4, rfl, rfl⟩, rfl⟩, rfl⟩, ?_, ?_⟩
  · simp only [List.append_nil]
    refine (List.Perm.nodup_iff ?_).1 hn
    first
      | exact List.Perm.append_left _ List.perm_append_comm
      | (simp only [List.append_assoc]; refine List.Perm.append_left _ ?_; simp only [← List.append_assoc]; refine (List.Perm.append_right _ List.perm_append_comm).trans ?_; simp)
      | (simp only [← List.append_assoc]; exact List.Perm.append_left _ List.perm_append_comm)
      | skip
  · intro b off hb
    refine hall b off ?_
    simp only [List.append_nil, List.mem_append] at hb ⊢
    rcases hb with h | h
    · first | exact .inl h | (rcases h with h | h <;> simp [h])
    · first | (rcases h with h | h <;> simp [h]) | simp [h]

/-- The listed variables, by the given names. -/
def laidG : List (String × DataW Unit) := [("unicode/utf8.acceptRanges", Rows.laid_unicode_utf8_acceptRanges), ("unicode.CaseRanges", Rows.laid_unicode_CaseRanges), ("unicode/utf8.first", Rows.laid_unicode_utf8_first)]
def laid3 : List (String × DataW Unit) := [("unicode/utf8.acceptRanges", Lib.acceptData), ("unicode.CaseRanges", Lib.caseData), ("unicode/utf8.first", Lib.firstData)]
theorem accept_eq : (Rows.laid_unicode_utf8_acceptRanges : DataW Unit) = Lib.acceptData := by kernel_rfl
theorem laid_eq : laidG = laid3 := by
  unfold laidG laid3 Rows.laid_unicode_CaseRanges Rows.laid_unicode_utf8_first
  rw [accept_eq, Pinned.caseRanges_eq, Pinned.utf8First_eq]
theorem u8 : U8Extra Tryz.prog Tryz.lays159_ren := ⟨by kernel_rfl, by kernel_rfl, by kernel_rfl, by kernel_rfl, by kernel_rfl, by kernel_rfl, by kernel_rfl⟩
theorem case' : CaseExtra Tryz.prog Tryz.lays159_ren := ⟨by kernel_rfl, by kernel_rfl, by kernel_rfl, by kernel_rfl, by kernel_rfl, by kernel_rfl⟩
theorem env_of {W : World} (h : laidMet Tryz.prog laidG W) (hsh : W.ShapedOpen Tryz.prog) : Env W := by
  rw [laid_eq] at h
  exact ⟨utf8Tabs_of_reads { Tryz.lays159 with } u8 (Lib.laidMet.reads h (.tail _ (.tail _ (.head _)))) (Lib.laidMet.reads h (.head _)), Tryz.laysM219.s1_3 W hsh⟩
/-- The settled world with one block more; the three variables hold what their initialisers lay. -/
noncomputable def laidWorld (os : Os) : World :=
  let N := (World.settled Tryz.prog os).heap.size
  let w0 := World.holding Tryz.prog os ⟨#[.cells Lib.caseCells5 (Tryz.lays159_ren.t 208)], #[], []⟩
  let put (h : Array Obj) (g : Nat) (cs : Array Value) : Array Obj := h.modify g fun
    | .cells _ t frozen => .cells cs t frozen
    | o => o
  let h2 := put w0.heap (Tryz.lays159_ren.g 3) (Lib.firstTab.map fun z => Value.int .u8 z).toArray
  let h3 := put h2 (Tryz.lays159_ren.g 4) ((List.range 16).flatMap fun i => [Value.int .u8 (Lib.accLo i), Value.int .u8 (Lib.accHi i)]).toArray
  let h5 := put h3 (Tryz.lays159_ren.g 13) #[.slice (some ⟨N, 0, none⟩) 336 336]
  { w0 with heap := h5 }
theorem laid_met3 (os : Os) (args : Array Value) : laidMet Tryz.prog [("unicode/utf8.acceptRanges", Lib.acceptData), ("unicode/utf8.first", Lib.firstData), ("unicode.CaseRanges", Lib.caseData)] ((laidWorld os).forCall (fun _ _ => 0) ⟨#[], args, []⟩).memory :=
  laidMet_with_case (ρ := Tryz.lays159_ren) { Tryz.lays159 with } Tryz.lays159.t206 case'
    (l := [("unicode/utf8.acceptRanges", Lib.acceptData), ("unicode/utf8.first", Lib.firstData)])
    10 (by kernel_rfl) (by kernel_rfl) (by kernel_rfl) ((World.settled Tryz.prog default).heap.size) (Tryz.lays159_ren.t 208) (of_decide_eq_true (by kernel_rfl)) (by kernel_rfl) (by kernel_rfl) (by kernel_rfl)
theorem laid_met (os : Os) (args : Array Value) : laidMet Tryz.prog laidG ((laidWorld os).forCall (fun _ _ => 0) ⟨#[], args, []⟩).memory := by
  rw [laid_eq]
  exact laidMet_turn (laid_met3 os args)
end Go.Proofs.YtmcoloapiiakbaaGreatDoor.Card
