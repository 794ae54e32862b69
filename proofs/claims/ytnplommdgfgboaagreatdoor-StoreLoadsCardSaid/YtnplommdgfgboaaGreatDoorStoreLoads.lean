/-
  Of any text the law StoreLoads returns true, and what came in reads as it did. No condition.
-/
import Derived.Test.YtnplommdgfgboaaGreatDoorK10
import Derived.Test.YtnplommdgfgboaaGreatDoorRows
import Derived.Test.YtnplommdgfgboaaGreatDoorTie
import Derived.Test.YtnplommdgfgboaaGreatDoorCards
import Derived.WalkKit
import Derived.ProofKit
import Derived.OpenShut
import Derived.ShutString
import Derived.ChangeOld
import Derived.Below
import Derived.SevenTiedAt
import Derived.JoinedCond
set_option linter.unusedVariables false
set_option linter.unusedSimpArgs false
namespace Go.Proofs.YtnplommdgfgboaaGreatDoor
open Go.ChangeShapes Go.WideShapes Go.ChangeAt Go.RowKit Go.Proofs.YtnplommdgfgboaaGreatDoor.B
open Go.ChangeMaps (open_string shut_string)
theorem storeLoads_own : ownKnob Tryz.prog.godebug = none := by kernel_rfl
theorem storeLoads_laidOut : laidOutB Tryz.prog = true := by kernel_rfl

theorem storeLoads_witness (os : Os) {H : Type} (enc : TypeId × Value → H) :
    (OpenSpec.ofChange Rows.storeLoadsSpec).preRow enc Tryz.prog Tryz.f7 Rows.storeLoadsRow.domain false Rows.storeLoadsRow.laid ((Card.laidWorld os).forCall (fun _ _ => 0) ⟨#[], #[.string ⟨#[]⟩], []⟩).memory #[.string ⟨#[]⟩] := by
  have hw : (DataW.whole enc Tryz.prog ((Card.laidWorld os).forCall (fun _ _ => 0) ⟨#[], #[.string ⟨#[]⟩], []⟩).memory Tryz.f7.params.toList (OpenSpec.ofChange Rows.storeLoadsSpec).vars false (#[.string ⟨#[]⟩] : Array Value).toList 8).map (fun x => (x.1, x.2.1)) = some ([.lit (.string [])], []) := by kernel_rfl
  obtain ⟨⟨x1, x2, x3⟩, hx, hx1⟩ := Option.map_eq_some_iff.1 hw
  simp only [Prod.mk.injEq] at hx1
  obtain ⟨rfl, rfl⟩ := hx1
  exact OpenSpec.preRow_of_cond 8 hx (by kernel_rfl) (fun k hk => by cases hk) (by kernel_rfl) (Card.laid_met os _)
set_option maxRecDepth 100000 in
set_option maxHeartbeats 2000000 in
theorem storeLoads_lifted (os : Os) (started : os.Started) (H : Type) (enc : TypeId × Value → H) (F0 : Stop.Interp) :
    ReturnsInHanded {} Tryz.checked os 7 .any ((OpenSpec.ofChange Rows.storeLoadsSpec).preRow enc Tryz.prog Tryz.f7 Rows.storeLoadsRow.domain false Rows.storeLoadsRow.laid) (((OpenSpec.ofChange Rows.storeLoadsSpec).at F0).post enc Tryz.prog Tryz.f7 false true false false) := by
  refine returnsInHanded_of_row (C := Tryz.checked) (s := OpenSpec.ofChange Rows.storeLoadsSpec) storeLoads_own started (by kernel_rfl) Tryz.func7
    (witness_row_atRef (enc := enc) (C := Tryz.checked) false (Card.laidWorld os) #[.string ⟨#[]⟩] rfl (by kernel_rfl) (by kernel_rfl) (by kernel_rfl) (storeLoads_witness os enc)) ?_
  intro W base args ds gs before hval0 hW _ _ hsz0 hL hsh _
  have he0 : Env.Env W := Card.env_of hL hsh
  have hval : ∀ (j : Nat) t v, Tryz.f7.params[j]? = some t → args[j]? = some v → Value.okWide Tryz.prog W .any base t v := hval0
  have hW' := hW
  obtain ⟨p, q, hA0, hV, rfl, hfz, hnd⟩ := hW
  have hA : DataW.TrodAll enc Tryz.prog W 0 (fun _ => true) true Tryz.f7.params.toList args.toList ds p := hA0
  have hsz : (DataW.weightsEach Tryz.prog (Tryz.f7.params.toList ++ (OpenSpec.ofChange Rows.storeLoadsSpec).bare.plain.varTypes Tryz.prog) (ds ++ gs)).all (· ≤ reachBytes) = true := hsz0
  rw [Tryz.params7] at hA hval hsz
  obtain ⟨v0, vs0, d0, ds0, p0, q0, hargs, rfl, rfl, h0, r0⟩ := trodAll_cons hA
  obtain ⟨rfl, rfl, rfl⟩ := trodAll_nil r0
  obtain rfl : args = #[v0] := by cases args; simp_all
  obtain ⟨rfl, rfl⟩ := trodVars_none hV
  obtain ⟨a0, rfl, rfl, rfl, w0⟩ := open_string Tryz.underlying9 (hval 0 9 v0 rfl rfl) h0
  clear hA0 hval0
  refine (SLoads.walk W he0 a0 w0).mono fun e W' ⟨he, bel⟩ => ?_
  subst he
  exact ⟨_, rfl, _, _, _, [], _, [], hW', trodAll_mk1 (shut_bool Tryz.underlying4 _), (trodAll_cons_mk (shut_string Tryz.underlying9 w0) trodAll_mk0), rfl, bel.frame _, fun h => by cases h⟩
theorem storeLoads_named : Tryz.pinned.checked.prog.funcNamed Rows.storeLoadsRow.func = some 7 := by kernel_rfl
theorem storeLoads_closed : joinedFacts Tryz.pinned.checked.prog 7 Tryz.f7 (OpenSpec.ofChange Rows.storeLoadsSpec).bare Rows.storeLoadsRow = true := by kernel_rfl
theorem storeLoads_inst : Tryz.f7.isInstance Tryz.pinned.checked.prog Rows.storeLoadsRow.origin Rows.storeLoadsRow.targs := of_decide_eq_true (by kernel_rfl)
theorem storeLoads_wrap : Tryz.f7.isWrapper Tryz.pinned.checked.prog Rows.storeLoadsRow.wrapper Rows.storeLoadsRow.mainSum := by unfold Func.isWrapper; first | (rw [if_pos (by decide +kernel)]; kernel_rfl) | (rw [if_neg (by decide +kernel)]; exact ⟨rfl, rfl⟩)
/-- THE ROW. -/
theorem storeLoads_row : Rows.StoreLoadsSaid :=
  OpenClaim.holds_of_cond 7 Tryz.f7 rfl rfl rfl rfl rfl rfl rfl ⟨rfl, rfl, rfl, rfl, rfl⟩ rfl rfl rfl rfl rfl storeLoads_named Tryz.func7 storeLoads_closed
    storeLoads_inst storeLoads_wrap
    (fun os started H enc _ F0 => by rw [OpenClaim.pre_eq_preRow]; exact storeLoads_lifted os started H enc F0)
/-- THE STATEMENT: the card. -/
theorem storeLoads_holds : Rows.StoreLoadsCardSaid :=
  Claim7.holds_tied_plain_at .later [] [.data, .pinned, .pinned] true _ false
    storeLoads_row (fun _ h => by cases h) (by kernel_rfl) (fun _ h => by cases h) storeLoads_row_tie rfl ⟨rfl, rfl⟩ (by kernel_rfl) rfl
    (fun f fn hf hfn => by
      obtain rfl : f = 7 := Option.some.inj ((show Tryz.prog.funcNamed "trivium/triviumlaw11.StoreLoads" = some 7 by kernel_rfl).symm.trans hf) |>.symm
      obtain rfl : fn = Tryz.f7 := (Option.some.inj (Tryz.func7.symm.trans hfn)).symm
      exact ⟨by kernel_rfl, fun j t ht => by
        rw [Tryz.params7] at ht
        have hm : t ∈ (Tryz.f7.params.toList) := by rw [Tryz.params7]; exact List.mem_of_getElem? (by simpa using ht)
        exact beq_iff_eq.1 (List.all_eq_true.1 (show (Tryz.f7.params.toList).all (fun t => Tryz.prog.wantsStandIn t == false) = true by kernel_rfl) t hm)⟩)
    (by kernel_rfl)
#print axioms storeLoads_holds
end Go.Proofs.YtnplommdgfgboaaGreatDoor
