import Derived.Test.YtnplommdgfgboaaGreatDoorJ10
import Derived.Test.YtnplommdgfgboaaGreatDoorRows
import Derived.Test.YtnplommdgfgboaaGreatDoorTie
import Derived.Test.YtnplommdgfgboaaGreatDoorCards
import Derived.WalkKit
import Derived.ProofKit
import Derived.OpenShut
import Derived.ShutString
import Derived.ChangeOld
import Derived.Below
import Derived.SevenTiedAt
import Derived.JoinedCond
set_option linter.unusedVariables false
set_option linter.unusedSimpArgs false
namespace Go.Proofs.YtnplommdgfgboaaGreatDoor
open Go.ChangeShapes Go.WideShapes Go.ChangeAt Go.RowKit Go.Proofs.YtnplommdgfgboaaGreatDoor.B
open Go.ChangeMaps (open_string shut_string)
theorem zown : ownKnob Tryz.prog.godebug = none := by kernel_rfl
theorem zlaidOut : laidOutB Tryz.prog = true := by kernel_rfl

theorem zwitness (os : Os) {H : Type} (enc : TypeId × Value → H) :
    (OpenSpec.ofChange Rows.storeDecodesSpec).preRow enc Tryz.prog Tryz.f10 Rows.storeDecodesRow.domain false Rows.storeDecodesRow.laid ((Card.laidWorld os).forCall (fun _ _ => 0) ⟨#[], #[.slice none 0 0], []⟩).memory #[.slice none 0 0] := by
  have hw : (DataW.whole enc Tryz.prog ((Card.laidWorld os).forCall (fun _ _ => 0) ⟨#[], #[.slice none 0 0], []⟩).memory Tryz.f10.params.toList (OpenSpec.ofChange Rows.storeDecodesSpec).vars false (#[.slice none 0 0] : Array Value).toList 8).map (fun x => (x.1, x.2.1)) = some ([.nil], []) := by kernel_rfl
  obtain ⟨⟨x1, x2, x3⟩, hx, hx1⟩ := Option.map_eq_some_iff.1 hw
  simp only [Prod.mk.injEq] at hx1
  obtain ⟨rfl, rfl⟩ := hx1
  exact OpenSpec.preRow_of_cond 8 hx (by kernel_rfl) (fun k hk => by cases hk) (by kernel_rfl) (Card.laid_met os _)
set_option maxRecDepth 100000 in
set_option maxHeartbeats 2000000 in
theorem zlifted (os : Os) (started : os.Started) (H : Type) (enc : TypeId × Value → H) (F0 : Stop.Interp) :
    ReturnsInHanded {} Tryz.checked os 10 .any ((OpenSpec.ofChange Rows.storeDecodesSpec).preRow enc Tryz.prog Tryz.f10 Rows.storeDecodesRow.domain false Rows.storeDecodesRow.laid) (((OpenSpec.ofChange Rows.storeDecodesSpec).at F0).post enc Tryz.prog Tryz.f10 false true false false) := by
  refine returnsInHanded_of_row (C := Tryz.checked) (s := OpenSpec.ofChange Rows.storeDecodesSpec) zown started (by kernel_rfl) Tryz.func10
    (witness_row_atRef (enc := enc) (C := Tryz.checked) false (Card.laidWorld os) #[.slice none 0 0] rfl (by kernel_rfl) (by kernel_rfl) (by kernel_rfl) (zwitness os enc)) ?_
  intro W base args ds gs before hval0 hW _ _ hsz0 hL hsh _
  have he0 : Env.Env W := Card.env_of hL hsh
  have hval : ∀ (j : Nat) t v, Tryz.f10.params[j]? = some t → args[j]? = some v → Value.okWide Tryz.prog W .any base t v := hval0
  have hW' := hW
  obtain ⟨p, q, hA0, hV, rfl, hfz, hnd⟩ := hW
  have hA : DataW.TrodAll enc Tryz.prog W 0 (fun _ => true) true Tryz.f10.params.toList args.toList ds p := hA0
  have hsz : (DataW.weightsEach Tryz.prog (Tryz.f10.params.toList ++ (OpenSpec.ofChange Rows.storeDecodesSpec).bare.plain.varTypes Tryz.prog) (ds ++ gs)).all (· ≤ reachBytes) = true := hsz0
  rw [Tryz.params10] at hA hval hsz
  obtain ⟨v0, vs0, d0, ds0, p0, q0, hargs, rfl, rfl, h0, r0⟩ := trodAll_cons hA
  obtain ⟨rfl, rfl, rfl⟩ := trodAll_nil r0
  obtain rfl : args = #[v0] := by cases args; simp_all
  obtain ⟨rfl, rfl⟩ := trodVars_none hV
  obtain ⟨A0, len0, cap0, rfl⟩ := okWide_slice Tryz.underlying55 (hval 0 55 v0 rfl rfl)
  have k0 := h0
  have lt0 : ∀ x ∈ p0, x.block < W.heap.size := by obtain ⟨m, hm⟩ := k0; exact DataW.trod_lt m _ _ _ hm
  obtain ⟨fuel0, hf0⟩ := h0
  obtain ⟨a0, m0⟩ := (Opens.slice Tryz.underlying55 (by kernel_rfl) (of_decide_eq_true (by kernel_rfl)) (Opens.byte Tryz.underlying5)) enc W fuel0 _ _ hf0 (weights_of hsz (j := 0) rfl rfl)
  clear hA0 hval0
  refine (SDec.walk W he0 a0 _ m0).mono fun e W' ⟨he, bel⟩ => ?_
  subst he
  exact ⟨_, rfl, _, _, _, [], _, [], hW', trodAll_mk1 (shut_bool Tryz.underlying4 _), (trodAll_cons_mk (Below.trod zlaidOut (by kernel_rfl) (of_decide_eq_true (by kernel_rfl)) k0 bel lt0) trodAll_mk0), rfl, bel.frame _, fun h => by cases h⟩
theorem znamed : Tryz.pinned.checked.prog.funcNamed Rows.storeDecodesRow.func = some 10 := by kernel_rfl
theorem zclosed : joinedFacts Tryz.pinned.checked.prog 10 Tryz.f10 (OpenSpec.ofChange Rows.storeDecodesSpec).bare Rows.storeDecodesRow = true := by kernel_rfl
theorem zinst : Tryz.f10.isInstance Tryz.pinned.checked.prog Rows.storeDecodesRow.origin Rows.storeDecodesRow.targs := of_decide_eq_true (by kernel_rfl)
theorem zwrap : Tryz.f10.isWrapper Tryz.pinned.checked.prog Rows.storeDecodesRow.wrapper Rows.storeDecodesRow.mainSum := by unfold Func.isWrapper; first | (rw [if_pos (by decide +kernel)]; kernel_rfl) | (rw [if_neg (by decide +kernel)]; exact ⟨rfl, rfl⟩)
theorem zrow : Rows.StoreDecodesSaid :=
  OpenClaim.holds_of_cond 10 Tryz.f10 rfl rfl rfl rfl rfl rfl rfl ⟨rfl, rfl, rfl, rfl, rfl⟩ rfl rfl rfl rfl rfl znamed Tryz.func10 zclosed
    zinst zwrap
    (fun os started H enc _ F0 => by rw [OpenClaim.pre_eq_preRow]; exact zlifted os started H enc F0)
end Go.Proofs.YtnplommdgfgboaaGreatDoor
