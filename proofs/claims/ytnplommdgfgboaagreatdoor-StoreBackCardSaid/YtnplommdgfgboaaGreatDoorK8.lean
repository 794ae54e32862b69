/-
  Texts of the claim, one behind the other: IdsAll, RingAll, CrcWalk, CrcLaws, BoxWalk, BoxPack, Encode, SCommon, PutE, RefOf, RefID.
-/
import Derived.Test.YtnplommdgfgboaaGreatDoorK7
import Derived.Test.YtnplommdgfgboaaGreatDoorProg
import Derived.WalkKit
import Derived.KernelRfl
import Derived.Lib.Hide
import Derived.Deep.LoopGhost
import Derived.Lib.SlBytesConst
import Derived.Deep.QuietTactic
import Derived.BigQuiet
import Derived.WalkSpells
import Derived.Deep.DeepCutAuto
import Derived.Deep.RegionWith
set_option linter.unusedVariables false
set_option linter.unusedSimpArgs false
set_option maxHeartbeats 25600000
set_option maxRecDepth 100000
namespace Go.Proofs.YtnplommdgfgboaaGreatDoor
namespace IdsAll
open Go.RowKit Go.Lib B Rd OrdG StoreW IdsCmp IdsW Clones
theorem matches_calls (p:Pat) (x:Ids) (w:World):Calls Tryz.prog 54 #[.agg (patL p).toArray,.agg (idsL x).toArray] w fun e w'=>e = .returned (.bool (matchP p x))∧Below w.heap.size w w':=by
 have hb:Below w.heap.size w ((w.alloc (.cells (patL p).toArray 40)).alloc (.cells (idsL x).toArray 40)):=bel_alloc (bel_alloc (bR _ _) _) _
 have hp:P3 ((w.alloc (.cells (patL p).toArray 40)).alloc (.cells (idsL x).toArray 40)) w.heap.size 0 p:=(P3.new w p).below (bel_alloc (bR _ _) _)
 have hx:I3 ((w.alloc (.cells (patL p).toArray 40)).alloc (.cells (idsL x).toArray 40)) (w.heap.size + 1) 0 x:=by
  have:=I3.new (w.alloc (.cells (patL p).toArray 40)) x
  rwa [show (w.alloc (.cells (patL p).toArray 40)).heap.size = w.heap.size + 1 by simp] at this
 obtain ⟨w0,hw0⟩:∃ w0,w0 = ((w.alloc (.cells (patL p).toArray 40)).alloc (.cells (idsL x).toArray 40)):=⟨_,rfl⟩
 rw [← hw0] at hb hp hx
 have HB:=Zz hb
 have HW:Hid ((w.alloc (.cells (patL p).toArray 40)).alloc (.cells (idsL x).toArray 40) = w0):=Zz hw0.symm
 have p0:=hp 0 (by decide)
 have p1:=hp 1 (by decide)
 have p2:=hp 2 (by decide)
 have x0:=hx 0 (by decide)
 have x1:=hx 1 (by decide)
 have x2:=hx 2 (by decide)
 simp only [Nat.zero_add,Pat.at,at3] at p0 p1 p2 x0 x1 x2
 have HN:=Zz (fun k hk=>match_no (p:=p) (x:=x) (k:=k) hk)
 have HY:=Zz (match_yes (p:=p) (x:=x))
 obtain ⟨v,hv⟩:∃ v,v = matchP p x:=⟨_,rfl⟩
 rw [← hv] at HN HY
 rw [← hv]
 clear hb hp hx hw0 hv
 obtain ⟨pa,pb,pc⟩:=p
 obtain ⟨xa,xb,xc⟩:=x
 unfold patL idsL at *
 dsimp only at *
 have hi0:=fun w=>run_idx0 pa pb pc w
 have hi1:=fun w=>run_idx1 pa pb pc w
 have hi2:=fun w=>run_idx2 pa pb pc w
 go_enter Tryz.func54,Tryz.ntmps54
 go_upto_region 1 with fail
 rw [HW.o]
 clear HW
 go_wp2
 go_loopw [8] (fun vk wr=>∃ k:Nat,vk = .int .i64 k∧k ≤ 3∧Hid (∀ j,j < k → (⟨pa,pb,pc⟩:Pat).at j = 0 ∨ (⟨pa,pb,pc⟩:Pat).at j = (at3 ⟨xa,xb,xc⟩ j:Nat))∧w0 = wr) (fun vk _=>3 - (intOf vk).toNat)
 case atStart=>exact ⟨0,rfl,by omega,Zz (fun j h=>absurd h (by omega)),rfl⟩
 case round =>
  obtain ⟨k,rfl,hk,HJ,rfl⟩:=hrel
  rcases (by omega:k = 0 ∨ k = 1 ∨ k = 2 ∨ k = 3) with rfl | rfl | rfl | rfl
  ·
   by_cases h0:pa = 0
   ·
    have hn0:(pa != 0) = false:=by simp [h0]
    have HJ2:Hid (∀ j,j < 1 → (⟨pa,pb,pc⟩:Pat).at j = 0 ∨ (⟨pa,pb,pc⟩:Pat).at j = (at3 ⟨xa,xb,xc⟩ j:Nat)):=Zz (fun j hj=>by
     by_cases e:j = 0
     ·
      subst e;exact .inl h0
     ·
      exact HJ.o j (by omega))
    clear h0 HJ
    go_wp2
    go_roundw
    case rel=>exact ⟨1,by go_num,by omega,HJ2,by first | rfl | trivial⟩
    case measure=>simp [intOf]
   ·
    have hn0:(pa != 0) = true:=by simp [h0]
    by_cases h1:pa = (xa:Int)
    ·
     have hn1:(pa != (xa:Int)) = false:=by simp [h1]
     have HJ2:Hid (∀ j,j < 1 → (⟨pa,pb,pc⟩:Pat).at j = 0 ∨ (⟨pa,pb,pc⟩:Pat).at j = (at3 ⟨xa,xb,xc⟩ j:Nat)):=Zz (fun j hj=>by
      by_cases e:j = 0
      ·
       subst e;exact .inr h1
      ·
       exact HJ.o j (by omega))
     clear h0 h1 HJ
     go_wp2
     go_roundw
     case rel=>exact ⟨1,by go_num,by omega,HJ2,by first | rfl | trivial⟩
     case measure=>simp [intOf]
    ·
     have hn1:(pa != (xa:Int)) = true:=by simp [h1]
     have HV:=Zz (HN.o 0 (by decide) h0 h1)
     clear h0 h1 HJ
     go_wp2
     go_ret
     exact ⟨by rw [HV.o];rfl,HB.o⟩
  ·
   by_cases h0:pb = 0
   ·
    have hn0:(pb != 0) = false:=by simp [h0]
    have HJ2:Hid (∀ j,j < 2 → (⟨pa,pb,pc⟩:Pat).at j = 0 ∨ (⟨pa,pb,pc⟩:Pat).at j = (at3 ⟨xa,xb,xc⟩ j:Nat)):=Zz (fun j hj=>by
     by_cases e:j = 1
     ·
      subst e;exact .inl h0
     ·
      exact HJ.o j (by omega))
    clear h0 HJ
    go_wp2
    go_roundw
    case rel=>exact ⟨2,by go_num,by omega,HJ2,by first | rfl | trivial⟩
    case measure=>simp [intOf]
   ·
    have hn0:(pb != 0) = true:=by simp [h0]
    by_cases h1:pb = (xb:Int)
    ·
     have hn1:(pb != (xb:Int)) = false:=by simp [h1]
     have HJ2:Hid (∀ j,j < 2 → (⟨pa,pb,pc⟩:Pat).at j = 0 ∨ (⟨pa,pb,pc⟩:Pat).at j = (at3 ⟨xa,xb,xc⟩ j:Nat)):=Zz (fun j hj=>by
      by_cases e:j = 1
      ·
       subst e;exact .inr h1
      ·
       exact HJ.o j (by omega))
     clear h0 h1 HJ
     go_wp2
     go_roundw
     case rel=>exact ⟨2,by go_num,by omega,HJ2,by first | rfl | trivial⟩
     case measure=>simp [intOf]
    ·
     have hn1:(pb != (xb:Int)) = true:=by simp [h1]
     have HV:=Zz (HN.o 1 (by decide) h0 h1)
     clear h0 h1 HJ
     go_wp2
     go_ret
     exact ⟨by rw [HV.o];rfl,HB.o⟩
  ·
   by_cases h0:pc = 0
   ·
    have hn0:(pc != 0) = false:=by simp [h0]
    have HJ2:Hid (∀ j,j < 3 → (⟨pa,pb,pc⟩:Pat).at j = 0 ∨ (⟨pa,pb,pc⟩:Pat).at j = (at3 ⟨xa,xb,xc⟩ j:Nat)):=Zz (fun j hj=>by
     by_cases e:j = 2
     ·
      subst e;exact .inl h0
     ·
      exact HJ.o j (by omega))
    clear h0 HJ
    go_wp2
    go_roundw
    case rel=>exact ⟨3,by go_num,by omega,HJ2,by first | rfl | trivial⟩
    case measure=>simp [intOf]
   ·
    have hn0:(pc != 0) = true:=by simp [h0]
    by_cases h1:pc = (xc:Int)
    ·
     have hn1:(pc != (xc:Int)) = false:=by simp [h1]
     have HJ2:Hid (∀ j,j < 3 → (⟨pa,pb,pc⟩:Pat).at j = 0 ∨ (⟨pa,pb,pc⟩:Pat).at j = (at3 ⟨xa,xb,xc⟩ j:Nat)):=Zz (fun j hj=>by
      by_cases e:j = 2
      ·
       subst e;exact .inr h1
      ·
       exact HJ.o j (by omega))
     clear h0 h1 HJ
     go_wp2
     go_roundw
     case rel=>exact ⟨3,by go_num,by omega,HJ2,by first | rfl | trivial⟩
     case measure=>simp [intOf]
    ·
     have hn1:(pc != (xc:Int)) = true:=by simp [h1]
     have HV:=Zz (HN.o 2 (by decide) h0 h1)
     clear h0 h1 HJ
     go_wp2
     go_ret
     exact ⟨by rw [HV.o];rfl,HB.o⟩
  ·
   have HV:=Zz (HY.o HJ.o)
   go_wp2
   go_ret
   exact ⟨by rw [HV.o];rfl,HB.o⟩
def clV (h:Nat):Value:=.func (.func 53) #[] #[.pointer (some ⟨h,0,none⟩)]
theorem clo_calls (p:Pat) (x:Ids) (h:Nat) (w:World) (hp:P3 w h 0 p):Calls Tryz.prog 53 #[.agg (idsL x).toArray,.pointer (some ⟨h,0,none⟩)] w fun e w'=>e = .returned (.bool (!matchP p x))∧Below w.heap.size w w':=by
 have hb:Below w.heap.size w (w.alloc (.cells (idsL x).toArray 40)):=bel_alloc (bR _ _) _
 have hp2:=hp.below hb
 have hx:=I3.new w x
 obtain ⟨w0,hw0⟩:∃ w0,w0 = w.alloc (.cells (idsL x).toArray 40):=⟨_,rfl⟩
 rw [← hw0] at hb hp2 hx
 have HB:=Zz hb
 have HW:Hid (w.alloc (.cells (idsL x).toArray 40) = w0):=Zz hw0.symm
 have HM:=Zz (matches_calls p x w0)
 have p0:=hp2 0 (by decide)
 have p1:=hp2 1 (by decide)
 have p2:=hp2 2 (by decide)
 have x0:=hx 0 (by decide)
 have x1:=hx 1 (by decide)
 have x2:=hx 2 (by decide)
 simp only [Nat.zero_add,Pat.at,at3] at p0 p1 p2 x0 x1 x2
 generalize matchP p x = v at *
 clear hb hp hp2 hx hw0
 obtain ⟨pa,pb,pc⟩:=p
 obtain ⟨xa,xb,xc⟩:=x
 unfold patL idsL at *
 dsimp only at *
 go_enter Tryz.func53,Tryz.ntmps53
 go_upto_region 1 with fail
 rw [HW.o]
 clear HW
 go_wp2_with fail
 refine HM.o.mono ?_
 rintro e w2 ⟨rfl,hb2⟩
 have HB2:=Zz (bel_step HB.o hb2)
 clear hb2 HM
 go_wp2
 go_ret
 exact ⟨rfl,HB2.o⟩
def firstNot (f:Ids → Bool) (R:List Ids):Int:=if (R.takeWhile f).length < R.length then ((R.takeWhile f).length:Nat) else -1
theorem takeWhile_at {f:Ids → Bool}:∀ (R:List Ids) (k:Nat) (h:k < R.length),(∀ i (hi:i < R.length),i < k → f R[i] = true) → f R[k] = false → (R.takeWhile f).length = k
 | [],k,h,_,_=>by simp at h
 | x :: R,0,h,_,hn=>by
  rw [List.takeWhile_cons]
  simp at hn
  simp [hn]
 | x :: R,k + 1,h,hy,hn=>by
  have h0:=hy 0 (by simp) (by omega)
  simp at h0
  rw [List.takeWhile_cons,if_pos h0,List.length_cons,takeWhile_at R k (by simpa using h) (fun i hi hlt=>by have:=hy (i + 1) (by simp;omega) (by omega);rw [List.getElem_cons_succ] at this;exact this) (by rw [List.getElem_cons_succ] at hn;exact hn)]
theorem first_at {f:Ids → Bool} {R:List Ids} {k:Nat} (h:k < R.length) (hy:∀ i (hi:i < R.length),i < k → f R[i] = true) (hn:f R[k] = false):firstNot f R = k:=by
 unfold firstNot
 rw [takeWhile_at R k h hy hn,if_pos h]
theorem first_none {f:Ids → Bool} {R:List Ids} (hy:∀ i (hi:i < R.length),f R[i] = true):firstNot f R = -1:=by
 have:R.takeWhile f = R:=by
  have:∀ R:List Ids,(∀ x ∈ R,f x = true) → R.takeWhile f = R:=by
   intro R
   induction R with
   | nil=>intro _;rfl
   | cons x R ih =>
    intro h
    rw [List.takeWhile_cons,if_pos (h x (by simp)),ih (fun z hz=>h z (by simp [hz]))]
  exact this R fun x hx=>by
   obtain ⟨i,hi,rfl⟩:=List.getElem_of_mem hx
   exact hy i hi
 unfold firstNot
 rw [this,if_neg (by omega)]
theorem index_calls (p:Pat) (R:List Ids) (L cap:Nat) (hL:R.length = L) (hLs:L ≤ 1000000) (g h:Nat) (W w:World) (hg:g < w.heap.size) (hS:IR W g R w) (hp:P3 w h 0 p) :
  Calls Tryz.prog 97 #[.slice (some ⟨g,0,none⟩) L cap,clV h] w fun e w'=>e = .returned (.int .i64 (firstNot (matchP p) R))∧Below w.heap.size w w':=by
 have HL:Hid (R.length = L):=Zz hL
 have HS:=Zz hS
 have HP:=Zz hp
 have HG:=Zz hg
 clear hL hS hp hg
 unfold clV
 go_enter Tryz.func97,Tryz.ntmps97
 go_wp2
 go_loopw [8] (fun vk wr=>∃ k:Nat,vk = .int .i64 k∧k ≤ L∧Hid ((∀ i (hi:i < R.length),i < k → matchP p R[i] = true)∧Below w.heap.size w wr)) (fun vk _=>L - (intOf vk).toNat)
 case atStart=>exact ⟨0,rfl,by omega,Zz ⟨fun i hi h=>absurd h (by omega),bR _ _⟩⟩
 case round =>
  obtain ⟨k,rfl,hkL,HI⟩:=hrel
  by_cases hlt:k < L
  ·
   have hd:decide (k < L) = true:=dT hlt
   have ik:(k:Int) < (L:Int):=by omega
   have hcx:=HS.o.cells k (by rw [HL.o];exact hlt)
   have hcx2:=hcx.below HI.o.2
   obtain ⟨x,hx⟩:∃ x,x = R[k]'(by rw [HL.o];exact hlt):=⟨_,rfl⟩
   rw [← hx] at hcx2
   have HC:=Zz (clo_calls p x h wr (HP.o.below HI.o.2))
   obtain ⟨v,hv⟩:∃ v,v = matchP p x:=⟨_,rfl⟩
   rw [← hv] at HC
   have x0:=hcx2 0 (by decide)
   have x1:=hcx2 1 (by decide)
   have x2:=hcx2 2 (by decide)
   simp only [Nat.add_zero,at3] at x0 x1 x2
   clear hcx
   have HB:=Zz HI.o.2
   have HStep:Hid (v = true → ∀ i (hi:i < R.length),i < k + 1 → matchP p R[i] = true):=Zz (fun hvt i hi hlt=>by
    by_cases e:i = k
    ·
     subst e;rw [← hx,← hv];exact hvt
    ·
     exact HI.o.1 i hi (by omega))
   have HEnd:Hid (v = false → firstNot (matchP p) R = (k:Nat)):=Zz (fun hvf=>first_at (by rw [HL.o];exact hlt) HI.o.1 (by rw [← hx,← hv];exact hvf))
   clear hx hv hcx2 HI
   obtain ⟨xa,xb,xc⟩:=x
   unfold idsL at HC
   dsimp only at *
   cases v
   ·
    have HV:=Zz (HEnd.o rfl)
    clear HEnd HStep
    go_wp2_with fail
    refine HC.o.mono ?_
    rintro e w2 ⟨rfl,hb2⟩
    have HB2:=Zz (bel_step HB.o hb2)
    clear hb2 HC
    go_wp2
    go_ret
    exact ⟨by rw [HV.o];rfl,HB2.o⟩
   ·
    have HV:=Zz (HStep.o rfl)
    clear HEnd HStep
    go_wp2_with fail
    refine HC.o.mono ?_
    rintro e w2 ⟨rfl,hb2⟩
    have HB2:=Zz (bel_step HB.o hb2)
    clear hb2 HC
    go_wp2
    go_roundw
    case rel=>exact ⟨k + 1,by go_num,by omega,Zz ⟨HV.o,HB2.o⟩⟩
    case measure=>simp [intOf];omega
  ·
   have hd:decide (k < L) = false:=dF hlt
   have HV:Hid (firstNot (matchP p) R = -1):=Zz (first_none fun i hi=>HI.o.1 i hi (by have:=HL.o;omega))
   have HB:=Zz HI.o.2
   clear HI
   go_wp2
   go_ret
   exact ⟨by rw [HV.o];rfl,HB.o⟩
theorem first_cases (f:Ids → Bool) (R:List Ids):(firstNot f R = -1∧R.filter f = R) ∨ ∃ k:Nat,∃ h:k < R.length,firstNot f R = k∧(∀ i (hi:i < R.length),i < k → f R[i] = true)∧f R[k] = false:=by
 by_cases h:(R.takeWhile f).length < R.length
 ·
  right
  refine ⟨(R.takeWhile f).length,h,by unfold firstNot;rw [if_pos h],fun i hi hlt=>?_,?_⟩
  ·
   have hm:(R.takeWhile f)[i] ∈ R.takeWhile f:=List.getElem_mem hlt
   have e:(R.takeWhile f)[i] = R[i]:=by
    have:=List.takeWhile_prefix (p:=f) (l:=R)
    obtain ⟨t,ht⟩:=this
    have h1:R[i]? = (R.takeWhile f)[i]?:=by
     conv=>lhs;rw [← ht]
     rw [List.getElem?_append_left hlt]
    rw [List.getElem?_eq_getElem hi,List.getElem?_eq_getElem hlt] at h1
    exact (Option.some.inj h1).symm
   rw [← e]
   exact List.all_eq_true.1 List.all_takeWhile _ hm
  ·
   have:∀ (R:List Ids) (h:(R.takeWhile f).length < R.length),f (R[(R.takeWhile f).length]'h) = false:=by
    intro R
    induction R with
    | nil=>intro h;simp at h
    | cons x R ih =>
     intro h
     by_cases hx:f x = true
     ·
      have e:(x :: R).takeWhile f = x :: R.takeWhile f:=by rw [List.takeWhile_cons,if_pos hx]
      have h':(R.takeWhile f).length < R.length:=by rw [e] at h;simpa using h
      have:=ih h'
      simp only [e,List.length_cons,List.getElem_cons_succ]
      exact this
     ·
      have e:(x :: R).takeWhile f = []:=by rw [List.takeWhile_cons,if_neg hx]
      simp only [e,List.length_nil,List.getElem_cons_zero]
      simpa using hx
   exact this R h
 ·
  left
  have e:R.takeWhile f = R:=(List.takeWhile_prefix f).eq_of_length (by have:=(List.takeWhile_prefix f (l:=R)).length_le;omega)
  refine ⟨by unfold firstNot;rw [if_neg h],List.filter_eq_self.2 fun x hx=>?_⟩
  rw [← e] at hx
  exact List.all_eq_true.1 List.all_takeWhile _ hx
theorem delete_calls (p:Pat) (R:List Ids) (L cap:Nat) (hL:R.length = L) (hc:L ≤ cap) (hLs:L ≤ 1000000) (hcM:cap ≤ maxLen) (g h:Nat) (W w:World) (hg:g < w.heap.size) (hne:g ≠ h) (hS:IR W g R w) (hp:P3 w h 0 p) :
  Calls Tryz.prog 51 #[.slice (some ⟨g,0,none⟩) L cap,clV h] w fun e w'=>e = .returned (.slice (some ⟨g,0,none⟩) (R.filter (matchP p)).length cap)∧IR W g (R.filter (matchP p)) w'∧w.heap.size ≤ w'.heap.size:=by
 have HI:=Zz (index_calls p R L cap hL hLs g h W w hg hS hp)
 have HL:Hid (R.length = L):=Zz hL
 have HS:=Zz hS
 have HP:=Zz hp
 have HG:=Zz hg
 have HNe:=Zz hne
 have HF:=Zz (first_cases (matchP p) R)
 clear hL hS hp hg hne
 unfold clV at *
 go_enter Tryz.func51,Tryz.ntmps51
 rcases HF.o with ⟨hf,hall⟩ | ⟨k,hkR,hf,hyes,hno⟩
 ·
  rw [hf] at HI
  have HA:=Zz hall
  clear hf hall HF
  rw [HA.o]
  go_wp2_with fail
  refine HI.o.mono ?_
  rintro e w2 ⟨rfl,hb2⟩
  have HS2:=Zz (HS.o.below HG.o hb2)
  have HZ:=Zz hb2.size
  clear hb2 HI
  go_wp2
  go_ret
  exact ⟨by rw [HL.o];rfl,HS2.o,HZ.o⟩
 rw [hf] at HI
 have hkL:k < L:=by rw [← HL.o];exact hkR
 have hk1:((k:Int) == -1) = false:=by rw [beq_eq_false_iff_ne];omega
 have HI0:Hid (FI (matchP p) R R L k (k + 1)):=Zz (FI.start HL.o hkL (fun i hi hlt=>hyes i hi hlt) hno)
 clear hf hyes hno HF hkR
 go_wp2_with fail
 refine HI.o.mono ?_
 rintro e w2 ⟨rfl,hb2⟩
 have HS2:=Zz (HS.o.below HG.o hb2)
 have HP2:=Zz (HP.o.below hb2)
 have HG2:Hid (g < w2.heap.size∧w.heap.size ≤ w2.heap.size):=Zz ⟨Nat.lt_of_lt_of_le HG.o hb2.size,hb2.size⟩
 clear hb2 HI HS HP HG
 go_wp2
 go_loopw [5,6] (fun vk vj wr=>∃ (k j:Nat) (l':List Ids),vk = .int .i64 k∧vj = .int .i64 j∧k < j∧j ≤ L∧Hid (FI (matchP p) R l' L k j∧IR W g l' wr∧P3 wr h 0 p∧g < wr.heap.size∧w.heap.size ≤ wr.heap.size)) (fun _ vj _=>L - (intOf vj).toNat)
 case atStart=>exact ⟨k,k + 1,R,rfl,by go_num,by omega,by omega,Zz ⟨HI0.o,HS2.o,HP2.o,HG2.o.1,HG2.o.2⟩⟩
 case round =>
  obtain ⟨k1,j,l',rfl,rfl,hkj,hjL,HR⟩:=hrel
  clear HI0 HS2 HP2 HG2 hk1
  by_cases hlt:j < L
  ·
   have hd:decide (j < L) = true:=dT hlt
   have ij:(j:Int) < (L:Int):=by omega
   have ik:(k1:Int) < (L:Int):=by omega
   obtain ⟨x,hx⟩:∃ x,x = R[j]'(by rw [HL.o];exact hlt):=⟨_,rfl⟩
   have hcx:I3 wr g (j * 3) x:=HR.o.2.1.at (by rw [HR.o.1.tail j (lR _),hx];exact List.getElem?_eq_getElem _)
   have hb:Below wr.heap.size wr (wr.alloc (.cells (idsL x).toArray 40)):=bel_alloc (bR _ _) _
   have hnx:=I3.new wr x
   have hpx:=HR.o.2.2.1.below hb
   have hsx:=HR.o.2.1.below HR.o.2.2.2.1 hb
   have x0:=hcx 0 (by decide)
   have x1:=hcx 1 (by decide)
   have x2:=hcx 2 (by decide)
   simp only [Nat.add_zero,at3] at x0 x1 x2
   obtain ⟨w0,hw0⟩:∃ w0,w0 = wr.alloc (.cells (idsL x).toArray 40):=⟨_,rfl⟩
   rw [← hw0] at hb hnx hpx hsx
   have HWX:Hid (wr.alloc (.cells (idsL x).toArray 40) = w0):=Zz hw0.symm
   have HC:=Zz (clo_calls p x h w0 hpx)
   obtain ⟨v,hv⟩:∃ v,v = matchP p x:=⟨_,rfl⟩
   rw [← hv] at HC
   have HDrop:Hid (v = false → FI (matchP p) R l' L k1 (j + 1)):=Zz (fun e=>HR.o.1.drop HL.o hlt (by rw [← hx,← hv];exact e))
   have HPut:Hid (v = true → FI (matchP p) R (l'.set k1 x) L (k1 + 1) (j + 1)):=Zz (fun e=>by
    have:=HR.o.1.put HL.o hkj hlt (by rw [← hx,← hv];exact e)
    rw [← hx] at this
    exact this)
   have hsz0:wr.heap.size < w0.heap.size:=by rw [hw0];simp
   have HState:Hid (IR W g l' w0∧P3 w0 h 0 p∧g < w0.heap.size∧w.heap.size ≤ w0.heap.size∧I3 w0 wr.heap.size 0 x∧wr.heap.size ≠ g):=Zz ⟨hsx,hpx,by have:=HR.o.2.2.2.1;omega,by have:=HR.o.2.2.2.2;omega,hnx,by have:=HR.o.2.2.2.1;omega⟩
   have HLen:Hid (l'.length = L):=Zz HR.o.1.len
   have y0:=hnx 0 (by decide)
   have y1:=hnx 1 (by decide)
   have y2:=hnx 2 (by decide)
   simp only [Nat.zero_add,at3] at y0 y1 y2
   have HXc:=Zz hnx
   clear hx hv hcx hb hnx hpx hsx hw0 HR
   obtain ⟨xa,xb,xc⟩:=x
   unfold idsL at HC HWX
   dsimp only at *
   cases v
   ·
    have HV:=Zz (HDrop.o rfl)
    clear HDrop HPut
    go_upto_region 8 with fail
    rw [HWX.o]
    clear x0 x1 x2 HWX
    go_wp2_with fail
    refine HC.o.mono ?_
    rintro e w3 ⟨rfl,hb3⟩
    have HN:Hid (IR W g l' w3∧P3 w3 h 0 p∧g < w3.heap.size∧w.heap.size ≤ w3.heap.size):=Zz ⟨HState.o.1.below HState.o.2.2.1 hb3,HState.o.2.1.below hb3,Nat.lt_of_lt_of_le HState.o.2.2.1 hb3.size,Nat.le_trans HState.o.2.2.2.1 hb3.size⟩
    clear hb3 HC HState y0 y1 y2 HXc
    go_wp2
    go_roundw
    case rel=>exact ⟨k1,j + 1,l',rfl,by go_num,by omega,by omega,Zz ⟨HV.o,HN.o.1,HN.o.2.1,HN.o.2.2.1,HN.o.2.2.2⟩⟩
    case measure=>simp [intOf];omega
   ·
    have HV:=Zz (HPut.o rfl)
    clear HDrop HPut
    go_upto_region 8 with fail
    rw [HWX.o]
    clear x0 x1 x2 HWX
    go_wp2_with fail
    refine HC.o.mono ?_
    rintro e w3 ⟨rfl,hb3⟩
    have hk1l:k1 < l'.length:=by rw [HLen.o];omega
    have hs3:=HState.o.1.below HState.o.2.2.1 hb3
    have HN:Hid (P3 w3 h 0 p∧g < w3.heap.size∧w.heap.size ≤ w3.heap.size):=Zz ⟨HState.o.2.1.below hb3,Nat.lt_of_lt_of_le HState.o.2.2.1 hb3.size,Nat.le_trans HState.o.2.2.2.1 hb3.size⟩
    have hx3:=HXc.o.below hb3
    have a0:=hx3 0 (by decide)
    have a1:=hx3 1 (by decide)
    have a2:=hx3 2 (by decide)
    simp only [Nat.zero_add,at3] at a0 a1 a2
    have f0:=hs3.free (k1 * 3 + 0) (by omega)
    have f1:=hs3.free (k1 * 3 + 1) (by omega)
    have f2:=hs3.free (k1 * 3 + 2) (by omega)
    have hz:=hs3.cells k1 hk1l
    obtain ⟨z,hze⟩:∃ z,z = l'[k1]:=⟨_,rfl⟩
    rw [← hze] at hz
    have z0:=hz 0 (by decide)
    have z1:=hz 1 (by decide)
    have z2:=hz 2 (by decide)
    simp only [Nat.add_zero,at3] at z0 z1 z2 f0
    have HSW:=Zz (hs3.set k1 hk1l ⟨xa,xb,xc⟩)
    unfold put3 at HSW
    dsimp only at HSW
    have HPW:Hid (∀ q v,P3 (w3.setCell ⟨g,q,none⟩ v) h 0 p):=Zz (fun q v=>HN.o.1.moved (Below.heap_setCell _ _ _ _ (fun e=>HNe.o e.symm)))
    clear hb3 HC HState y0 y1 y2 HXc hx3 hs3 hz hze hk1l
    go_wp2
    go_roundw
    case rel=>exact ⟨k1 + 1,j + 1,l'.set k1 ⟨xa,xb,xc⟩,by go_num,by go_num,by omega,by omega,Zz ⟨HV.o,HSW.o,by refine P3.moved HN.o.1 ?_;iterate 3 (first | rw [Below.heap_setCell _ _ _ _ (fun e=>HNe.o e.symm)]),by simpa using HN.o.2.1,by simpa using HN.o.2.2⟩⟩
    case measure=>simp [intOf];omega
  ·
   have hd:decide (j < L) = false:=dF hlt
   obtain rfl:j = L:=by omega
   have HEnd:Hid (R.filter (matchP p) = l'.take k1):=Zz (by
    have:=HR.o.1.head
    rw [List.take_of_length_le (l:=R) (by rw [HL.o];exact lR _)] at this
    exact this.symm)
   obtain ⟨n2,hn2⟩:∃ n2,n2 = j - k1:=⟨_,rfl⟩
   obtain ⟨c3,hc3⟩:∃ c3,c3 = cap - k1:=⟨_,rfl⟩
   have HSl2:∀ w,(Instr.slice 48 (.slice (some ⟨g,0,none⟩) j cap) (some (.int .i64 (k1:Int))) none none).run Tryz.prog w = .ok (.slice (some ⟨g,k1 * 3,none⟩) n2 c3) w:=fun w=>by rw [hn2,hc3];exact run_cutk w g j cap k1 hkj hc
   have HSl3:∀ w,(Instr.slice 48 (.slice (some ⟨g,0,none⟩) j cap) none (some (.int .i64 (k1:Int))) none).run Tryz.prog w = .ok (.slice (some ⟨g,0,none⟩) k1 cap) w:=fun w=>run_takek w g j cap k1 (by omega) (by omega) hc
   have HLl:l'.length = j:=HR.o.1.len
   obtain ⟨Z,hZ⟩:∃ Z,Z = (Builtin.zeroCells zeroV.cells n2).toList:=⟨_,rfl⟩
   have HClr:∀ ty,(Builtin.clear_ #[48] ty #[.slice (some ⟨g,k1 * 3,none⟩) n2 c3]).run Tryz.prog wr = .ok (.tuple #[]) (wr.setCells g (k1 * 3) Z):=fun ty=>by
    rw [hZ]
    refine run_clear wr ty g (k1 * 3) n2 c3 (by omega) (fun i hi=>?_) (fun i hi=>?_)
    ·
     obtain ⟨q,d,hd,he⟩:∃ q d,d < 3∧k1 * 3 + i = q * 3 + d:=⟨(k1 * 3 + i) / 3,(k1 * 3 + i) % 3,Nat.mod_lt _ (by omega),by omega⟩
     rw [he]
     have hq:q < l'.length:=by omega
     rw [HR.o.2.1.cells q hq d hd]
     try rfl
    ·
     exact HR.o.2.1.free _ (by omega)
   have HV:Hid ((R.filter (matchP p)).length = k1∧IR W g (R.filter (matchP p)) (wr.setCells g (k1 * 3) Z)∧w.heap.size ≤ (wr.setCells g (k1 * 3) Z).heap.size):=Zz (by
    have hlen:(R.filter (matchP p)).length = k1:=by rw [HEnd.o,List.length_take];omega
    have hgr:=TermW.setCells_grown g Z (k1 * 3) wr
    refine ⟨hlen,⟨HR.o.2.1.grown.trans hgr,fun i hi=>?_,fun i hi=>by rw [TermW.setCells_frozen];exact HR.o.2.1.free i (by omega)⟩,Nat.le_trans HR.o.2.2.2.2 hgr.size⟩
    have hi2:i < l'.length:=by omega
    have hcell:=HR.o.2.1.cells i hi2
    have he:(R.filter (matchP p))[i] = l'[i]:=by
     have:∀ (A B:List Ids) (e:A = B) (h:i < A.length) (h':i < B.length),A[i] = B[i]:=by rintro A B rfl h h';rfl
     rw [this _ _ HEnd.o hi (by rw [← HEnd.o];exact hi),List.getElem_take]
    rw [he]
    exact fun d hd=>(TermW.setCells_far g Z (k1 * 3) wr _ (by omega)).trans (hcell d hd))
   clear hn2 hc3 hZ HEnd HR HLl
   go_wp2
   go_ret
   exact ⟨by rw [HV.o.1];rfl,HV.o.2⟩
end IdsAll
namespace IdsAll
open Go.RowKit Go.Lib B Rd OrdG StoreW IdsCmp IdsW Clones
theorem index_nil (A:Option Addr) (c h:Nat) (w:World) :
  Calls Tryz.prog 97 #[.slice A 0 c,clV h] w fun e w'=>e = .returned (.int .i64 (-1))∧w = w':=by
 unfold clV
 go_enter Tryz.func97,Tryz.ntmps97
 go_wp2
 go_loopw [8] (fun vk wr=>vk = .int .i64 0∧w = wr) (fun vk _=>0)
 case atStart=>exact ⟨rfl,rfl⟩
 case round =>
  obtain ⟨rfl,rfl⟩:=hrel
  go_wp2
  go_ret
  exact ⟨rfl,rfl⟩
theorem delete_nil (A:Option Addr) (c h:Nat) (w:World) :
  Calls Tryz.prog 51 #[.slice A 0 c,clV h] w fun e w'=>e = .returned (.slice A 0 c)∧w = w':=by
 have HI:=Zz (index_nil A c h w)
 unfold clV at *
 go_enter Tryz.func51,Tryz.ntmps51
 go_wp2_with fail
 refine HI.o.mono ?_
 rintro e w2 ⟨rfl,rfl⟩
 go_wp2
 go_ret
 exact ⟨rfl,rfl⟩
theorem all_calls (p:Pat) (I:List Ids) (hI:I.length ≤ 100) (g:Nat) (w:World) (ok:Nat → Prop) (h:RingAt w ok g I) :
  Calls Tryz.prog 26 #[.pointer (some ⟨g,0,none⟩),.agg (patL p).toArray] w fun e w'=>(∃ A c,e = .returned (.slice A (I.filter (matchP p)).length c)∧idsK.sl.M w' (fun k=>w.heap.size ≤ k∧k < w'.heap.size) (I.filter (matchP p)) [.slice A (I.filter (matchP p)).length c])∧Below w.heap.size w w':=by
 obtain ⟨_,_,A,c,hg,hM⟩:=h
 have hb:Below w.heap.size w (w.alloc (.cells (patL p).toArray 40)):=bel_alloc (bR _ _) _
 have hp:=P3.new w p
 obtain ⟨w0,hw0⟩:∃ w0,w0 = w.alloc (.cells (patL p).toArray 40):=⟨_,rfl⟩
 rw [← hw0] at hb hp
 have hz0:w0.heap.size = w.heap.size + 1:=by rw [hw0];simp
 have HWX:Hid (w.alloc (.cells (patL p).toArray 40) = w0):=Zz hw0.symm
 have hM0:=Kd.M_bound (Kd.M_below (Kd.M_bound hM) hb)
 have HFit:Hid (∀ x ∈ I,FitsI x):=Zz (by
  obtain ⟨A',c',he,_,_,_,hrow⟩:=hM
  intro x hx
  obtain ⟨i,hi,rfl⟩:=List.getElem_of_mem hx
  obtain ⟨b,off,_,_,_,hcells⟩:=Kd.row_addr hrow (by omega)
  obtain ⟨cs,⟨_,hf⟩,_⟩:=hcells i hi
  exact hf)
 have HC:=Zz (clone_ids_calls I A c w0 (idsK.sl.mono (fun _ _ _=>trivial) hM0) (by omega))
 have hg0:w0.cell? ⟨g,3,none⟩ = some (.slice A I.length c):=(hb.cell (p:=⟨g,3,none⟩) (cell_lt hg)).trans hg
 have HB:=Zz hb
 have HP:=Zz hp
 have HZ:=Zz hz0
 have hmf:∀ (fn:Fn) (first cap:Array Value) (w:World),(Instr.makeFunc fn first cap).run Tryz.prog w = .ok (.func fn first cap) w:=fun _ _ _ _=>rfl
 clear hM hb hp hw0 hz0 hM0 hg
 unfold patL at HWX
 unfold patL
 go_enter Tryz.func26,Tryz.ntmps26
 go_upto_region 1 with fail
 rw [HWX.o]
 clear HWX
 go_wp2_with fail
 refine HC.o.mono ?_
 rintro e w1 ⟨⟨v,rfl,ho⟩,hb⟩
 have HB1:=Zz (bel_step HB.o hb)
 have HP1:=Zz (HP.o.below hb)
 have HZ1:Hid (w.heap.size < w1.heap.size):=Zz (by have:=hb.size;have:=HZ.o;omega)
 clear hb HC hg0
 by_cases h0:I.length = 0
 ·
  obtain rfl:I = []:=List.eq_nil_of_length_eq_zero h0
  obtain ⟨A1,c1,rfl,h1,h2⟩:=Kd.own_slice ho
  have HD:=Zz (delete_nil A1 c1 w.heap.size w1)
  have HO:Hid (idsK.sl.M w1 (fun k=>w.heap.size ≤ k∧k < w1.heap.size) [] [.slice A1 0 c1]):=Zz ⟨A1,c1,rfl,Nat.zero_le _,⟨Nat.zero_le _,by
   obtain ⟨A',c',he,_,⟨_,h5⟩,_⟩:=(Kd.own_sl (ok:=TT) (ok':=TT) ho (fun _ _=>trivial) (fun _ _=>trivial))
   simp at he
   omega⟩,h2,Kd.row_nil _ _ _ _⟩
  unfold clV at HD
  simp only [List.length_nil,List.filter_nil] at *
  clear ho h1 h2 h0
  go_wp2_with fail
  refine HD.o.mono ?_
  rintro e w2 ⟨rfl,rfl⟩
  go_wp2
  go_ret
  exact ⟨⟨A1,c1,rfl,HO.o⟩,HB1.o⟩
 ·
  obtain ⟨gr,cap,rfl,hbase,hglt,hcap,hcm,hir⟩:=IR.of_own ho (by omega)
  have hne:gr ≠ w.heap.size:=by have:=HZ.o;omega
  have HD:=Zz (delete_calls p I I.length cap rfl hcap (by omega) hcm gr w.heap.size w1 w1 hglt hne hir HP1.o)
  have HG:Hid (w.heap.size ≤ gr∧gr < w1.heap.size∧I.length ≤ cap∧cap ≤ maxLen):=Zz ⟨by have:=HZ.o;omega,hglt,hcap,hcm⟩
  have HLe:Hid ((I.filter (matchP p)).length ≤ I.length):=Zz (List.length_filter_le _ _)
  have HFf:Hid (∀ x ∈ I.filter (matchP p),FitsI x):=Zz (fun x hx=>HFit.o x (List.mem_filter.1 hx).1)
  unfold clV at HD
  obtain ⟨F,hF⟩:∃ F,F = I.filter (matchP p):=⟨_,rfl⟩
  rw [← hF] at HD HLe HFf
  have HFe:=Zz hF
  clear hF
  clear ho hbase hglt hcap hcm hir hne h0
  go_wp2_with fail
  refine HD.o.mono ?_
  rintro e w2 ⟨rfl,hir,hsz⟩
  have HB2:Hid (Below w.heap.size w w2):=Zz (HB1.o.grown hir.grown (by have:=HZ1.o;omega) (fun j hj=>by have:=HG.o;cases hj;omega))
  have HO:Hid (idsK.sl.M w2 (fun k=>w.heap.size ≤ k∧k < w2.heap.size) F [.slice (some ⟨gr,0,none⟩) F.length cap]):=Zz (hir.sl HFf.o (by have:=HLe.o;omega) (by have:=HG.o;have:=HLe.o;omega) HG.o.2.2.2 _ ⟨HG.o.1,by have:=HG.o;omega⟩)
  clear hir hsz HD
  go_wp2
  go_ret
  rw [← HFe.o]
  exact ⟨⟨_,_,rfl,HO.o⟩,HB2.o⟩
end IdsAll
namespace CrcWalk
open Go.RowKit CrcPure B
theorem and_high (y:Nat) (h:y < 33554432):Go.bits .and .i64 (y:Int) 16777216 = if 16777216 ≤ y then 16777216 else 0:=by
 have hk:∀ n:Int,0 ≤ n → n < 2 ^ 63 → IntKind.i64.wrap n = n:=fun n h0 h1=>by rw [IntKind.wrap_i64];omega
 have e:=(bits_nat .i64 63 (by decide) hk y 16777216 (by omega) (by omega)).1
 rw [show ((16777216:Nat):Int) = (16777216:Int) from rfl] at e
 rw [e]
 by_cases hy:16777216 ≤ y
 ·
  rw [if_pos hy]
  have:y &&& 16777216 = 16777216:=by
   apply Nat.eq_of_testBit_eq
   intro j
   rw [Nat.testBit_and,show (16777216:Nat) = 2 ^ 24 by decide,Nat.testBit_two_pow]
   by_cases hj:24 = j
   ·
    subst hj;rw [testBit_high hy h];simp
   ·
    simp [hj]
  rw [this];rfl
 ·
  rw [if_neg hy]
  have:y &&& 16777216 = 0:=by
   apply Nat.eq_of_testBit_eq
   intro j
   rw [Nat.testBit_and,show (16777216:Nat) = 2 ^ 24 by decide,Nat.testBit_two_pow,Nat.zero_testBit]
   by_cases hj:24 = j
   ·
    subst hj;rw [testBit_low (by omega)];simp
   ·
    simp [hj]
  rw [this];rfl
theorem xor_i64 (a b:Nat) (ha:a < 9223372036854775808) (hb:b < 9223372036854775808):Go.bits .xor .i64 (a:Int) (b:Int) = ((a ^^^ b:Nat):Int):=by
 have hp:(2:Nat) ^ IntKind.i64.bits = 18446744073709551616:=by decide
 have ha':a % 18446744073709551616 = a:=Nat.mod_eq_of_lt (by omega)
 have hb':b % 18446744073709551616 = b:=Nat.mod_eq_of_lt (by omega)
 simp only [bits,BitVec.ofInt_natCast,BitVec.toNat_xor,BitVec.toNat_ofNat]
 rw [hp,ha',hb']
 have:=Nat.xor_lt_two_pow (x:=a) (y:=b) (n:=63) (by omega) (by omega)
 rw [IntKind.wrap_i64]
 omega
theorem one_calls (x:Nat) (hx:x < 16777216) (c:UInt8) (w:World) :
  Calls Tryz.prog 144 #[.int .i64 x,.int .u8 c.toNat] w fun e w'=>e = .returned (.int .i64 (cstep x c:Nat))∧w = w':=by
 have hc:=c.toNat_lt
 have e0:Go.bits .xor .i64 (x:Int) ((c.toNat:Int) * 65536) = ((x ^^^ c.toNat * 65536:Nat):Int):=by
  have e:=xor_i64 x (c.toNat * 65536) (by omega) (by omega)
  rw [Int.natCast_mul] at e
  exact e
 have hlt:=in_lt hx c
 have hstep:cstep x c = shN 8 (x ^^^ c.toNat * 65536):=cstep_eq x c
 generalize x ^^^ c.toNat * 65536 = y0 at *
 generalize cstep x c = r at *
 subst hstep
 go_enter Tryz.func144,Tryz.ntmps144
 go_wp2
 go_loop [0,10] (fun s i=>∃ k y:Nat,k ≤ 8∧i = .int .i64 k∧s = .int .i64 y∧y < 16777216∧shN (8 - k) y = shN 8 y0) (fun _ i=>8 - (intOf i).toNat)
 case atStart=>exact ⟨0,y0,by omega,rfl,rfl,hlt,rfl⟩
 case round =>
  obtain ⟨k,y,hk,rfl,rfl,hy,hs⟩:=hrel
  have H:=Zz hs
  clear hs e0
  by_cases hlt:k < 8
  ·
   have hsh:shN (8 - (k + 1)) (sh y) = shN (8 - k) y:=by
    rw [← shN_succ,show 8 - (k + 1) + 1 = 8 - k by omega]
   have HS:=Zz hsh
   clear hsh
   have hl:=sh_lt hy
   by_cases hh:16777216 ≤ 2 * y
   ·
    have hb:Go.bits .and .i64 ((y:Int) * 2) 16777216 = 16777216:=by
     have e:=and_high (2 * y) (by omega)
     rw [if_pos hh] at e
     rw [show ((y:Int) * 2) = ((2 * y:Nat):Int) by omega]
     exact e
    have hx:Go.bits .xor .i64 ((y:Int) * 2) 25578747 = (sh y:Nat):=by
     have e:=xor_i64 (2 * y) 25578747 (by omega) (by omega)
     rw [show ((y:Int) * 2) = ((2 * y:Nat):Int) by omega]
     unfold sh
     rw [if_pos hh]
     exact e
    go_wp2
    go_round
    case rel=>exact ⟨k + 1,sh y,by omega,by go_num,rfl,hl,HS.o.trans H.o⟩
    case measure=>simp [intOf];omega
   ·
    have hb:Go.bits .and .i64 ((y:Int) * 2) 16777216 = 0:=by
     have e:=and_high (2 * y) (by omega)
     rw [if_neg hh] at e
     rw [show ((y:Int) * 2) = ((2 * y:Nat):Int) by omega]
     exact e
    have hv:(y:Int) * 2 = (sh y:Nat):=by unfold sh;rw [if_neg hh];omega
    have HV:=Zz hv
    clear hv
    go_wp2
    go_round
    case rel=>exact ⟨k + 1,sh y,by omega,by go_num,by rw [HV.o],hl,HS.o.trans H.o⟩
    case measure=>simp [intOf];omega
  ·
   go_wp2
   go_ret
   obtain rfl:k = 8:=by omega
   exact ⟨ret_int (by rw [← H.o];rw [shN_zero]),rfl⟩
theorem take_flat (ls:List (List UInt8)) (k:Nat) (h:k < ls.length):(ls.take (k + 1)).flatten = (ls.take k).flatten ++ ls[k]:=by
 rw [List.take_succ_eq_append_getElem h,List.flatten_append];simp
theorem u8_at {w:World} {ok:Nat → Prop} {A:Option Addr} {l:List UInt8} (h:byteK.row w ok A l) (k:Nat) (hk:k < l.length):∃ ad,A = some ad∧w.cell? (ad.add k) = some (.int .u8 (l[k].toNat:Int)):=by
 obtain ⟨ad,cs,h1,h2,h3⟩:=Kd.row_at h hk
 have e:cs = [.int .u8 (l[k].toNat:Int)]:=h2
 subst e
 exact ⟨ad,h1,by simpa [byteK,flat] using h3 0 _ rfl⟩
theorem sl_at {α:Type} {d:Kd α} {w:World} {ok:Nat → Prop} {A:Option Addr} {l:List (List α)} (h:d.sl.row w ok A l) (k:Nat) (hk:k < l.length) :
  ∃ ad A' c',A = some ad∧w.cell? (ad.add k) = some (.slice A' l[k].length c')∧l[k].length ≤ c'∧(l[k].length ≤ 140737488355328∧c' ≤ maxLen)∧(A' = none → c' = 0)∧d.row w ok A' l[k]:=by
 obtain ⟨ad,cs,h1,⟨A',c',rfl,h4,h5,h6,h7⟩,h3⟩:=Kd.row_at h hk
 exact ⟨ad,A',c',h1,by simpa [Kd.sl] using h3 0 _ rfl,h4,h5,h6,h7⟩
theorem sum_calls (ls:List (List UInt8)) (A:Option Addr) (c:Nat) (ok:Nat → Prop) (w:World) (hl:ls.length ≤ maxLen) (hr:byteK.sl.row w ok A ls) :
  Calls Tryz.prog 104 #[.slice A ls.length c] w fun e w'=>e = .returned (.int .i64 (crc ls.flatten:Nat))∧w = w':=by
 unfold maxLen at hl
 have HR:=Zz hr
 clear hr
 go_enter Tryz.func104,Tryz.ntmps104
 go_wp2
 go_loop [3,10] (fun s i=>∃ k y:Nat,k ≤ ls.length∧i = .int .i64 k∧s = .int .i64 y∧y < 16777216∧Hid (y = crc (ls.take k).flatten)) (fun _ i=>ls.length - (intOf i).toNat)
 case atStart=>exact ⟨0,init,by omega,rfl,rfl,init_lt,Zz rfl⟩
 case round =>
  obtain ⟨k,y,hk,rfl,rfl,hy,HS⟩:=hrel
  by_cases hlt:k < ls.length
  ·
   obtain ⟨ad,A',c',rfl,hcell,h1,h2,_,h4⟩:=sl_at HR.o k hlt
   have HR':=Zz h4
   have HT:=Zz (take_flat ls k hlt)
   clear h4
   generalize hg:ls[k] = l at *
   clear hg
   obtain ⟨h2,h2'⟩:=h2
   clear h2'
   go_wp2
   go_loop [3,16] (fun s i=>∃ j z:Nat,j ≤ l.length∧i = .int .i64 j∧s = .int .i64 z∧z < 16777216∧Hid (z = sumFrom y (l.take j))) (fun _ i=>l.length - (intOf i).toNat)
   case atStart=>exact ⟨0,y,by omega,rfl,rfl,hy,Zz rfl⟩
   case round =>
    obtain ⟨j,z,hj,rfl,rfl,hz,HZ⟩:=hrel
    by_cases hlj:j < l.length
    ·
     obtain ⟨ad',rfl,hc'⟩:=u8_at HR'.o j hlj
     have hn:cstep z l[j] = sumFrom y (l.take (j + 1)):=by
      rw [List.take_succ_eq_append_getElem hlj,sumFrom_snoc,HZ.o]
     have HN:=Zz hn
     clear hn
     have hlt':=cstep_lt hz l[j]
     generalize hgj:l[j] = b at *
     clear hgj
     go_wp2_with (go_at_call 144;refine (one_calls z hz b _).mono ?_;rintro e w' ⟨rfl,rfl⟩)
     go_round
     case rel=>exact ⟨j + 1,cstep z b,by omega,by go_num,rfl,hlt',HN⟩
     case measure=>simp [intOf];omega
    ·
     go_wp2
     go_round
     case rel =>
      have e:z = crc (ls.take (k + 1)).flatten:=by
       rw [HZ.o,HT.o,List.take_of_length_le (by omega),HS.o]
       unfold crc
       rw [sumFrom_append]
      exact ⟨k + 1,z,by omega,by go_num,rfl,hz,Zz e⟩
     case measure=>simp [intOf];omega
  ·
   go_wp2
   go_ret
   obtain rfl:k = ls.length:=by omega
   exact ⟨ret_int (by rw [HS.o,List.take_of_length_le (lR _)]),rfl⟩
theorem ref_calls (l:List UInt8) (A:Option Addr) (c:Nat) (ok:Nat → Prop) (w:World) (hl:l.length ≤ maxLen) (hr:byteK.row w ok A l) :
  Calls Tryz.prog 81 #[.slice A l.length c] w fun e w'=>e = .returned (.int .i64 (crc l:Nat))∧w = w':=by
 unfold maxLen at hl
 have HR:=Zz hr
 clear hr
 go_enter Tryz.func81,Tryz.ntmps81
 go_wp2
 go_loop [3,4] (fun s i=>∃ k y:Nat,k ≤ l.length∧i = .int .i64 k∧s = .int .i64 y∧y < 16777216∧Hid (y = crc (l.take k))) (fun _ i=>l.length - (intOf i).toNat)
 case atStart=>exact ⟨0,init,by omega,rfl,rfl,init_lt,Zz rfl⟩
 case round =>
  obtain ⟨k,y,hk,rfl,rfl,hy,HS⟩:=hrel
  by_cases hlt:k < l.length
  ·
   obtain ⟨ad,rfl,hcell⟩:=u8_at HR.o k hlt
   have HN:Hid (cstep y l[k] = crc (l.take (k + 1))):=by
    have:crc (l.take (k + 1)) = cstep (crc (l.take k)) l[k]:=by unfold crc;rw [List.take_succ_eq_append_getElem hlt,sumFrom_snoc]
    exact Zz (by rw [this,HS.o])
   generalize hg:l[k] = b at *
   clear hg
   have hb:=b.toNat_lt
   have e0:Go.bits .xor .i64 (y:Int) ((b.toNat:Int) * 65536) = ((y ^^^ b.toNat * 65536:Nat):Int):=by
    have e:=xor_i64 y (b.toNat * 65536) (by omega) (by omega)
    rw [Int.natCast_mul] at e
    exact e
   have hl0:=in_lt hy b
   have HC:=Zz (cstep_eq y b)
   have hl1:=cstep_lt hy b
   generalize y ^^^ b.toNat * 65536 = y0 at *
   go_wp2
   clear e0
   go_loop [3,5] (fun s i=>∃ j z:Nat,j ≤ 8∧i = .int .i64 j∧s = .int .i64 z∧z < 16777216∧Hid (shN (8 - j) z = shN 8 y0)) (fun _ i=>8 - (intOf i).toNat)
   case atStart=>exact ⟨0,y0,by omega,rfl,rfl,hl0,Zz rfl⟩
   case round =>
    obtain ⟨j,z,hj,rfl,rfl,hz,HZ⟩:=hrel
    by_cases hlj:j < 8
    ·
     have HS:Hid (shN (8 - (j + 1)) (sh z) = shN (8 - j) z):=by
      have:shN (8 - (j + 1)) (sh z) = shN (8 - j) z:=by rw [← shN_succ,show 8 - (j + 1) + 1 = 8 - j by omega]
      exact Zz this
     have hl2:=sh_lt hz
     by_cases hh:16777216 ≤ 2 * z
     ·
      have hx:Go.bits .xor .i64 ((z:Int) * 2) 25578747 = (sh z:Nat):=by
       have e:=xor_i64 (2 * z) 25578747 (by omega) (by omega)
       rw [show ((z:Int) * 2) = ((2 * z:Nat):Int) by omega]
       unfold sh
       rw [if_pos hh]
       exact e
      have hq:decide (16777216 ≤ (z:Int) * 2) = true:=by simp;omega
      go_wp2
      go_round
      case rel=>exact ⟨j + 1,sh z,by omega,by go_num,rfl,hl2,Zz (HS.o.trans HZ.o)⟩
      case measure=>simp [intOf];omega
     ·
      have HV:Hid ((z:Int) * 2 = (sh z:Nat)):=by
       have:(z:Int) * 2 = (sh z:Nat):=by unfold sh;rw [if_neg hh];omega
       exact Zz this
      have hq:decide (16777216 ≤ (z:Int) * 2) = false:=by simp;omega
      go_wp2
      go_round
      case rel=>exact ⟨j + 1,sh z,by omega,by go_num,by rw [HV.o],hl2,Zz (HS.o.trans HZ.o)⟩
      case measure=>simp [intOf];omega
    ·
     go_wp2
     go_round
     case rel =>
      obtain rfl:j = 8:=by omega
      have e:z = crc (l.take (k + 1)):=by
       rw [← HN.o,HC.o,← HZ.o,shN_zero]
      exact ⟨k + 1,z,by omega,by go_num,rfl,hz,Zz e⟩
     case measure=>simp [intOf];omega
  ·
   go_wp2
   go_ret
   obtain rfl:k = l.length:=by omega
   exact ⟨ret_int (by rw [HS.o,List.take_of_length_le (lR _)]),rfl⟩
end CrcWalk
namespace CrcLaws
open Go.RowKit CrcPure B CrcWalk
theorem info_u8:(Tryz.prog.info? 5).map (fun i=>(i.zero,i.size,i.bytes)) = some (some (.int .u8 0),1,1):=by kernel_rfl
theorem any_u8:∀ (w:World) (ok ok':Nat → Prop) (x:UInt8) (cs:List Value),byteK.M w ok x cs → byteK.M w ok' x cs:=fun _ _ _ _ _ h=>h
theorem one_row {W:World} {g:Nat} {v:Value} {l:List UInt8} {ok:Nat → Prop} (hg:W.heap.size = g) (h:byteK.sl.M W ok l [v]) :
  byteK.sl.row (W.alloc (.cells #[v] 55)) (fun _=>True) (some ⟨g,0,none⟩) [l]:=
 Kd.row_one (C:=#[v]) (Kd.bi_new hg) trivial (Kd.M_below (byteK.sl.mono (fun _ _ _=>trivial) h) ((bR _ _).alloc (lR _) _))
theorem three_cells (n:Nat) (h:n < 16777216):(#[Value.int .u8 ((n:Int) / 65536),.int .u8 ((n:Int) / 256 % 256),.int .u8 ((n:Int) % 256)]:Array Value).toList = (three n).map fun c=>Value.int .u8 (c.toNat:Int):=by
 unfold three
 simp only [List.map_cons,List.map_nil,UInt8.toNat_ofNat']
 rw [show (((n / 65536 % 2 ^ 8:Nat)):Int) = (n:Int) / 65536 by omega,show (((n / 256 % 2 ^ 8:Nat)):Int) = (n:Int) / 256 % 256 by omega,show (((n % 2 ^ 8:Nat)):Int) = (n:Int) % 256 by omega]
theorem and_65535 (a:Int):0 ≤ Go.bits .and .i64 a 65535∧Go.bits .and .i64 a 65535 < 65536:=by
 have e:Go.bits .and .i64 a 65535 = IntKind.i64.wrap (((BitVec.ofInt 64 a).toNat &&& 65535:Nat):Int):=by
  simp only [bits,BitVec.toNat_and]
  rfl
 have h:(BitVec.ofInt 64 a).toNat &&& 65535 < 65536:=by
  have:=Nat.and_lt_two_pow (n:=16) (BitVec.ofInt 64 a).toNat (show 65535 < 2 ^ 16 by decide)
  omega
 rw [e,IntKind.wrap_i64]
 omega
theorem u8_xor_b (a b:UInt8):Go.bits .xor .u8 (a.toNat:Int) (b.toNat:Int) = ((a ^^^ b).toNat:Int):=by
 rw [u8_xor_nat _ _ a.toNat_lt b.toNat_lt,UInt8.toNat_xor]
theorem xor_ne (a b:UInt8) (h:b ≠ 0):a ^^^ b ≠ a:=by
 intro e
 apply h
 have:=congrArg (a ^^^ ·) e
 simpa [← UInt8.xor_assoc] using this
end CrcLaws
namespace BoxWalk
open Go.RowKit CrcPure BoxPure B CrcWalk CrcLaws
abbrev T:Nat → Prop:=fun _=>True
def NewBytes (l:List UInt8) (w:World) (e:Ending) (w':World):Prop:=
 ∃ v,e = .returned v∧byteK.own 5 w' w.heap.size T v l∧Below w.heap.size w w'
theorem three_own (n:Nat) (h:n < 16777216) (w:World) :
  byteK.own 5 (w.alloc (.cells #[.int .u8 ((n:Int) / 65536),.int .u8 ((n:Int) / 256 % 256),.int .u8 ((n:Int) % 256)] 5)) w.heap.size T (.slice (some ⟨w.heap.size,0,none⟩) 3 3) (three n):=by
 have e:=three_cells n h
 have hh:=Kd.heap_new w (.cells #[.int .u8 ((n:Int) / 65536),.int .u8 ((n:Int) / 256 % 256),.int .u8 ((n:Int) % 256)] 5)
 exact Kd.own_block (cells:=[.int .u8 ((n:Int) / 65536),.int .u8 ((n:Int) / 256 % 256),.int .u8 ((n:Int) % 256)]) (xs:=three n) (lR _) hh rfl (by simp [three]) (fun i x hx=>by
  have:=u8_lit _ i x hx
  rw [← e] at this
  exact this)
theorem laid_calls (n:Nat) (hn:n < 16777216) (w:World) :
  Calls Tryz.prog 103 #[.int .i64 n] w (NewBytes (three n) w):=by
 go_enter Tryz.func103,Tryz.ntmps103
 go_wp2
 go_ret
 exact ⟨_,rfl,three_own n hn w,bel_alloc (bR _ _) _⟩
theorem refthree_calls (n:Nat) (hn:n < 16777216) (w:World) :
  Calls Tryz.prog 80 #[.int .i64 n] w (NewBytes (three n) w):=by
 go_enter Tryz.func80,Tryz.ntmps80
 go_wp2
 go_ret
 exact ⟨_,rfl,three_own n hn w,bel_alloc (bR _ _) _⟩
theorem or_bytes (a b c:UInt8):Go.bits .or .i64 (Go.bits .or .i64 ((a.toNat:Int) * 65536) ((b.toNat:Int) * 256)) (c.toNat:Int) = ((a.toNat * 65536 + b.toNat * 256 + c.toNat:Nat):Int):=by
 have ha:=a.toNat_lt
 have hb:=b.toNat_lt
 have hc:=c.toNat_lt
 have hk:∀ n:Int,0 ≤ n → n < 2 ^ 63 → IntKind.i64.wrap n = n:=fun n h0 h1=>by rw [IntKind.wrap_i64];omega
 rw [bits_join .i64 63 (by decide) hk 16 ((a.toNat:Int) * 65536) ((b.toNat:Int) * 256) (by omega) (by omega) (by omega) (by omega) (by omega) (by omega)]
 rw [bits_join .i64 63 (by decide) hk 8 ((a.toNat:Int) * 65536 + (b.toNat:Int) * 256) (c.toNat:Int) (by omega) (by omega) (by omega) (by omega) (by omega) (by omega)]
 omega
theorem getD_at (l:List UInt8) (i:Nat) (h:i < l.length):l.getD i 0 = l[i]:=by rw [List.getD_eq_getElem?_getD,List.getElem?_eq_getElem h];rfl
theorem u8_plain {w:World} {ok:Nat → Prop} {A:Option Addr} {l:List UInt8} (h:byteK.row w ok A l) (hp:0 < l.length) :
  ∃ b off,A = some ⟨b,off,none⟩∧∀ i (hi:i < l.length),w.cell? ⟨b,off + i,none⟩ = some (.int .u8 (l[i].toNat:Int)):=by
 obtain ⟨b,off,h1,_,h2⟩:=Kd.row_plain rfl h hp
 refine ⟨b,off,h1,fun i hi=>?_⟩
 obtain ⟨u,hu,hM⟩:=h2 i hi
 obtain rfl:u = .int .u8 (l[i].toNat:Int):=by simpa [byteK,flat] using hM
 exact hu
theorem number_calls (l:List UInt8) (h3:3 ≤ l.length) (v:Value) (ok:Nat → Prop) (w:World) (m:byteK.sl.M w ok l [v]) :
  Calls Tryz.prog 109 #[v] w fun e w'=>e = .returned (.int .i64 (num l:Nat))∧∃ n,w' = w.drewN n:=by
 obtain ⟨A,c,hv,h1,h2,_,hr⟩:=m
 simp at hv
 subst hv
 obtain ⟨b,off,rfl,hcell⟩:=u8_plain hr (by omega)
 have c0:=hcell 0 (by omega)
 have c1:=hcell 1 (by omega)
 have c2:=hcell 2 (by omega)
 rw [Nat.add_zero] at c0
 clear hcell
 have HN:Hid (num l = l[0].toNat * 65536 + l[1].toNat * 256 + l[2].toNat):=by
  have:num l = l[0].toNat * 65536 + l[1].toNat * 256 + l[2].toNat:=by
   unfold num
   rw [getD_at l 0 (by omega),getD_at l 1 (by omega),getD_at l 2 (by omega)]
  exact Zz this
 have HE:=Zz (or_bytes l[0] l[1] l[2])
 have b0:=l[0].toNat_lt
 have b1:=l[1].toNat_lt
 have b2:=l[2].toNat_lt
 generalize l[0] = x at *
 generalize l[1] = y at *
 generalize l[2] = z at *
 have i0:(0:Int) < (l.length:Int):=by omega
 have i1:(1:Int) < (l.length:Int):=by omega
 have i2:(2:Int) < (l.length:Int):=by omega
 have j0:0 < l.length:=by omega
 have w1:IntKind.i64.wrap ((x.toNat:Int) * 65536) = (x.toNat:Int) * 65536:=by rw [IntKind.wrap_i64];omega
 have w2:IntKind.i64.wrap ((y.toNat:Int) * 256) = (y.toNat:Int) * 256:=by rw [IntKind.wrap_i64];omega
 clear hr h1 h2
 go_enter Tryz.func109,Tryz.ntmps109
 go_wp2
 go_quiet (fail)
 go_wp2
 go_ret
 exact ⟨ret_int (by rw [HN.o,← HE.o]),_,rfl⟩
theorem clone_calls (l:List UInt8) (v:Value) (w:World) (m:byteK.sl.M w T l [v]) :
  Calls Tryz.prog 110 #[v] w (NewBytes l w):=by
 obtain ⟨A,c,hv,h1,h2,h3,hr⟩:=m
 simp at hv
 subst hv
 cases A with
 | none =>
  have hc:=h3 rfl
  have hl:l = []:=List.eq_nil_of_length_eq_zero (by omega)
  subst hl
  subst hc
  have he:=fun (w:World) (a:Option Addr) (n c:Nat)=>Lib.run_eql_slice_nil (P:=Tryz.prog) w 55 5 a n c 0 0 Tryz.underlying55
  go_enter Tryz.func110,Tryz.ntmps110
  go_wp2
  go_ret
  exact ⟨_,rfl,Kd.own_nil _ _ _ _ _,bR _ _⟩
 | some ad =>
  have he:=fun (w:World) (a:Option Addr) (n c:Nat)=>Lib.run_eql_slice_nil (P:=Tryz.prog) w 55 5 a n c 0 0 Tryz.underlying55
  have b0:Below w.heap.size w (w.alloc (.cells #[] 5)):=bel_alloc (bR _ _) _
  have HO0:Hid (byteK.own 5 (w.alloc (.cells #[] 5)) w.heap.size T (.slice (some ⟨w.heap.size,0,none⟩) 0 0) []):=
   Zz (Kd.own_block (cells:=[]) (xs:=[]) (lR _) (Kd.heap_new _ _) rfl (by simp) (fun i x h=>by simp at h))
  have HR0:=Zz (Kd.M_below (Kd.u8_sl h1 h2 h3 hr) b0)
  clear hr
  go_enter Tryz.func110,Tryz.ntmps110
  go_wp2_with (at_builtin;refine Kd.own_app byteK w.heap.size rfl (.tmp 5) (.tmp 6) 55 5 (.int .u8 0) 1 rfl Tryz.underlying55 info_u8 rfl (by decide) _ [] l (some ad) c T rfl rfl HO0.o (.inr ⟨HR0.o,any_u8⟩) b0 (by simp) (by simp;omega) ?_;intro v1 w1 ho1 hb1 hg1 hv1;clear hg1 hv1;rw [List.nil_append] at ho1;have HO1:=Zz ho1;clear ho1)
  go_ret
  exact ⟨_,rfl,HO1.o,hb1⟩
theorem mkS_beq (a b:List UInt8):((mkS a).toList == (mkS b).toList) = (a == b):=by
 rw [show (mkS a).toList = a from ByteArray.toList_mk a,show (mkS b).toList = b from ByteArray.toList_mk b]
theorem equal_calls (a b:List UInt8) (va vb:Value) (ok ok':Nat → Prop) (w:World) (ma:byteK.sl.M w ok a [va]) (mb:byteK.sl.M w ok' b [vb]) :
  Calls Tryz.prog 72 #[va,vb] w fun e w'=>e = .returned (.bool (a == b))∧w = w':=by
 obtain ⟨A,c,hv,_,_,_,hr⟩:=ma
 simp at hv
 subst hv
 obtain ⟨A',c',hv,_,_,_,hr'⟩:=mb
 simp at hv
 subst hv
 have h1:=conv_string (P:=Tryz.prog) (w:=w) (c:=c) Tryz.underlying55 Tryz.underlying5 Tryz.underlying9 hr
 have h2:=conv_string (P:=Tryz.prog) (w:=w) (c:=c') Tryz.underlying55 Tryz.underlying5 Tryz.underlying9 hr'
 have he:=mkS_beq a b
 clear hr hr'
 generalize mkS a = sa at *
 generalize mkS b = sb at *
 generalize (a == b) = r at *
 go_enter Tryz.func72,Tryz.ntmps72
 go_wp2
 go_ret
 exact ⟨rfl,rfl⟩
end BoxWalk
namespace BoxPack
open Go.RowKit CrcPure BoxPure B CrcWalk CrcLaws BoxWalk
def secK:Kd Sec:=pairK intK byteK.sl
theorem sec_cells {w:World} {ok:Nat → Prop} {x:Sec} {cs:List Value} (h:secK.M w ok x cs):∃ A c,cs = [.int .i64 x.1,.slice A x.2.length c]∧(-9223372036854775808 ≤ x.1∧x.1 ≤ 9223372036854775807)∧byteK.sl.M w ok x.2 [.slice A x.2.length c]:=by
 obtain ⟨c1,c2,rfl,⟨rfl,h1⟩,⟨A,c,rfl,h2⟩⟩:=h
 exact ⟨A,c,rfl,h1,A,c,rfl,h2⟩
theorem sec_at {w:World} {ok:Nat → Prop} {A:Option Addr} {l:List Sec} (h:secK.row w ok A l) (k:Nat) (hk:k < l.length) :
  ∃ b off A' c',A = some ⟨b,off,none⟩∧b < w.heap.size∧w.cell? ⟨b,off + k * 2,none⟩ = some (.int .i64 l[k].1)∧w.cell? ⟨b,off + k * 2 + 1,none⟩ = some (.slice A' l[k].2.length c') ∧
   (-9223372036854775808 ≤ l[k].1∧l[k].1 ≤ 9223372036854775807)∧byteK.sl.M w ok l[k].2 [.slice A' l[k].2.length c']:=by
 obtain ⟨b,off,h1,_,hb,h2⟩:=Kd.row_addr h (by omega)
 obtain ⟨cs,hM,hc⟩:=h2 k hk
 obtain ⟨A',c',rfl,h3,h4⟩:=sec_cells hM
 exact ⟨b,off,A',c',h1,hb,hc 0 _ rfl,hc 1 _ rfl,h3,h4⟩
structure PSt (w W:World) (v:Value) (b:List UInt8) (g:Nat) (id:Int) (body:List UInt8) (u:Value):Prop where
 own:byteK.own 5 W w.heap.size T v b
 bel:Below w.heap.size w W
 c0:W.cell? ⟨g,0,none⟩ = some (.int .i64 id)
 c1:W.cell? ⟨g,1,none⟩ = some u
 ne:some g ≠ v.ownBlock
 body:byteK.sl.M W (fun k=>k < w.heap.size) body [u]
namespace PSt
variable {w W W' : World} {v v1 : Value} {b ys body : List UInt8} {g : Nat} {id : Int} {u : Value}
theorem call (h:PSt w W v b g id body u) (hb:Below W.heap.size W W'):PSt w W' v b g id body u:=
 ⟨Kd.own_below h.own hb,bel_step h.bel hb,cell_same h.c0 (hb.block _ (cell_lt h.c0)),cell_same h.c1 (hb.block _ (cell_lt h.c1)),h.ne,Kd.M_below h.body hb⟩
theorem app (h:PSt w W v b g id body u) (h1:byteK.own 5 W' w.heap.size T v1 (b ++ ys)) (h2:Below w.heap.size w W') (h3:W.grownBy W' v.ownBlock) (h4:v1.ownBlock = v.ownBlock ∨ ∃ k,v1.ownBlock = some k∧W.heap.size ≤ k):PSt w W' v1 (b ++ ys) g id body u:=
 ⟨h1,h2,h3.cell h.c0 h.ne,h3.cell h.c1 h.ne,by
  rcases h4 with h4 | ⟨k,h4,h5⟩
  ·
   rw [h4];exact h.ne
  ·
   rw [h4]
   intro e
   have:=cell_lt h.c0
   simp at e
   simp at this
   omega,by
  refine byteK.sl.move (fun k hk hlt=>h3.block k hlt (fun e=>?_)) h.body
  have:=(Kd.own_lt h.own k e.symm).1
  omega⟩
end PSt
def PackPost (l:List Sec) (w:World) (e:Ending) (w':World):Prop:=
 Below w.heap.size w w'∧((May l∧∃ v,e = .returned (.tuple #[v,.int .i64 0])∧byteK.own 5 w' w.heap.size T v (file l)) ∨ (¬ May l∧e = .returned (.tuple #[.slice none 0 0,.int .i64 1])))
theorem pack_calls (l:List Sec) (v:Value) (w:World) (m:secK.sl.M w T l [v]) :
  Calls Tryz.prog 60 #[v] w (PackPost l w):=by
 obtain ⟨A,c,hv,h1,h2,h3,hr0⟩:=m
 simp at hv
 subst hv
 by_cases hlen:8 < l.length
 ·
  have q1:decide ((8:Int) < (l.length:Int)) = true:=dT (by omega)
  go_enter Tryz.func60,Tryz.ntmps60
  go_wp2
  go_ret2
  exact ⟨bR _ _,.inr ⟨fun h=>by have:=h.1;omega,rfl⟩⟩
 ·
  have q1:decide ((8:Int) < (l.length:Int)) = false:=dF (by omega)
  have HR:=Zz (Kd.row_mono (ok':=fun k=>k < w.heap.size) (fun k _ hk=>hk) hr0)
  clear hr0
  have kc:=fun (w:World) (C:Array Value) (n c:Nat)=>Lib.run_convert_bytes_const (P:=Tryz.prog) w 55 5 C n c Tryz.underlying55 Tryz.underlying5
  have HL:Hid ((#[.int .u8 (l.length:Int)]:Array Value).toList = [UInt8.ofNat l.length].map fun c=>Value.int .u8 (c.toNat:Int)):=by
   have:(#[.int .u8 (l.length:Int)]:Array Value).toList = [UInt8.ofNat l.length].map fun c=>Value.int .u8 (c.toNat:Int):=by
    simp only [List.map_cons,List.map_nil,UInt8.toNat_ofNat']
    rw [show (((l.length % 2 ^ 8:Nat)):Int) = (l.length:Int) by omega]
   exact Zz this
  go_enter Tryz.func60,Tryz.ntmps60
  go_wp2_with (at_builtin;go_loud (refine Kd.own_grow byteK rfl (.tmp 15) (.tmp 19) 55 5 (.int .u8 0) 1 rfl Tryz.underlying55 info_u8 rfl (by decide) title [UInt8.ofNat l.length] (some ⟨w.heap.size,0,none⟩) (some ⟨w.heap.size + 1,0,none⟩) 5 1 T rfl rfl ?hx ?hy (by simp [title]) (by simp) (by simp [title]) ?_);(case hx=>exact Kd.u8_sl (l:=title) (by simp [title]) (by simp [title,maxLen]) (fun h=>by cases h) (Kd.row_u8 (by repeat (first | exact Kd.bi_new (by simp) | refine Kd.bi_old ?_)) trivial rfl));(case hy=>exact Kd.u8_sl (l:=[UInt8.ofNat l.length]) (by simp) (by simp [maxLen]) (fun h=>by cases h) (Kd.row_u8 (by repeat (first | exact Kd.bi_new (by simp) | refine Kd.bi_old ?_)) trivial HL.o));intro v1 w1 ho1 hb1;have HO1:=Zz ho1;have HB1:=Zz hb1;clear ho1 hb1)
  have hb0:Below w.heap.size w w1:=bel_step (bel_alloc (bel_alloc (bR _ _) _) _) HB1.o
  have HO2:Hid (byteK.own 5 w1 w.heap.size T v1 (title ++ [UInt8.ofNat l.length] ++ heads (l.take 0))):=by
   have:=Kd.own_lower (base':=w.heap.size) (by simp;omega) HO1.o
   exact Zz (by simpa [heads] using this)
  have HB2:=Zz hb0
  clear HO1 HB1 hb0 kc
  go_loopw [4,5,6,28] (fun vb vs vl vi wr=>∃ (k:Nat) (S L:Int),k ≤ l.length∧vi = .int .i64 k∧vs = .int .i64 S∧vl = .int .i64 L∧Hid (S = ((9 + 7 * l.length + total (l.take k):Nat):Int))∧0 ≤ S∧S ≤ 100000∧Hid (L = lastID 0 (l.take k))∧0 ≤ L ∧
   Hid (rising 0 (l.take k) = true)∧Hid (byteK.own 5 wr w.heap.size T vb (title ++ [UInt8.ofNat l.length] ++ heads (l.take k)))∧Hid (Below w.heap.size w wr)) (fun _ _ _ vi _=>l.length - (intOf vi).toNat)
  case atStart =>
   exact ⟨0,6 + 7 * (l.length:Int) + 3,0,by omega,rfl,rfl,rfl,Zz (by simp [total];omega),by omega,by omega,Zz rfl,by omega,Zz rfl,HO2,HB2⟩
  case round =>
   clear HO2 HB2
   obtain ⟨k,S,L,hk,rfl,rfl,rfl,HS,hS0,hS1,HLL,hL0,HRi,HO,HB⟩:=hrel
   by_cases hlt:k < l.length
   ·
    obtain ⟨b,off,A',c',rfl,hbl,hc0,hc1,hid,hbody⟩:=sec_at (Kd.row_old HR.o HB.o) k hlt
    have HT1:=Zz (total_snoc l k hlt)
    have HT2:=Zz (heads_snoc l k hlt)
    have HT3:=Zz (rising_snoc' l k hlt 0)
    have HT4:=Zz (lastID_snoc' l k hlt 0)
    have HBY:=Zz hbody
    clear hbody
    generalize hx:l[k] = x at *
    clear hx
    obtain ⟨id,body⟩:=x
    dsimp only at *
    have hb47:body.length ≤ 140737488355328:=by
     obtain ⟨_,_,_,_,h,_⟩:=HBY.o
     exact h.1
    by_cases hbad:id ≤ L ∨ 255 < id ∨ 100000 < S + body.length
    ·
     have HN:Hid (¬ May l):=by
      refine Zz (fun hM=>?_)
      have r1:=rising_take l (k + 1) 0 hM.2.1
      have r2:=total_take l (k + 1)
      have r3:=hM.2.2
      rw [HT3.o,Bool.and_eq_true,Bool.and_eq_true,decide_eq_true_eq,decide_eq_true_eq] at r1
      rw [HT1.o] at r2
      rw [HLL.o] at hbad
      rw [HS.o] at hbad
      omega
     by_cases c1:id ≤ L
     ·
      have d1:decide (id ≤ L) = true:=dT c1
      go_wp2
      go_ret2
      exact ⟨bel_alloc HB.o _,.inr ⟨HN.o,rfl⟩⟩
     ·
      have d1:decide (id ≤ L) = false:=dF c1
      by_cases c2:255 < id
      ·
       have d2:decide (255 < id) = true:=dT c2
       go_wp2
       go_ret2
       exact ⟨bel_alloc HB.o _,.inr ⟨HN.o,rfl⟩⟩
      ·
       have d2:decide (255 < id) = false:=dF c2
       have d3:decide (100000 < S + (body.length:Int)) = true:=dT (by omega)
       go_wp2
       go_ret2
       exact ⟨bel_alloc HB.o _,.inr ⟨HN.o,rfl⟩⟩
    ·
     have d1:decide (id ≤ L) = false:=dF (by omega)
     have d2:decide (255 < id) = false:=dF (by omega)
     have d3:decide (100000 < S + (body.length:Int)) = false:=dF (by omega)
     have i0:0 ≤ id:=by omega
     have i1:id ≤ 255:=by omega
     have hbl1:body.length ≤ 100000:=by omega
     have i3:S + body.length ≤ 100000:=by omega
     have i4:L < id:=by omega
     have HID:Hid (id = ((idB id).toNat:Int)):=Zz (idB_val i0 i1).symm
     clear hbad
     obtain ⟨Ab,cb,rfl,_,_⟩:=Kd.own_slice HO.o
     have P0:PSt w (wr.alloc (.cells #[.int .i64 id,.slice A' body.length c'] 82)) (.slice Ab (title ++ [UInt8.ofNat l.length] ++ heads (l.take k)).length cb) (title ++ [UInt8.ofNat l.length] ++ heads (l.take k)) wr.heap.size id body (.slice A' body.length c'):=
      ⟨Kd.own_alloc HO.o _,bel_alloc HB.o _,by simp,by simp,fun e=>by have:=(Kd.own_lt HO.o _ e.symm).2;omega,Kd.M_below HBY.o (bel_alloc (bR _ _) _)⟩
     have HP0:=Zz P0
     have hlen0:(title ++ [UInt8.ofNat l.length] ++ heads (l.take k)).length ≤ 62:=by
      rw [List.length_append,heads_length];simp [title];omega
     have HT2':Hid (title ++ [UInt8.ofNat l.length] ++ heads (l.take (k + 1)) = ((title ++ [UInt8.ofNat l.length] ++ heads (l.take k)) ++ [idB id]) ++ three body.length ++ three (crc body)):=
      Zz (by rw [HT2.o];simp [head1])
     clear HT2
     generalize title ++ [UInt8.ofNat l.length] ++ heads (l.take k) = pre at *
     go_upto_region 14 with (at_builtin;go_loud (refine Kd.own_app1 byteK w.heap.size rfl (.tmp 52) (.tmp 56) 55 5 (.int .u8 0) 1 rfl Tryz.underlying55 info_u8 rfl (by decide) _ pre (idB id) [.int .u8 id] T rfl (by simp [Act.eval,Act.put]) HP0.o.own (by exact congrArg (fun z:Int=>[Value.int .u8 z]) HID.o) HP0.o.bel HP0.o.bel.size (by omega) ?_);intro v1 w1 ho1 hb1 hg1 hv1;have P1:=Zz (HP0.o.app ho1 hb1 hg1 hv1);clear ho1 hb1 hg1 hv1)
     have hp1:(pre ++ [idB id]).length ≤ 63:=by simp;omega
     generalize pre ++ [idB id] = p1 at *
     have hc0:=P1.o.c0
     have hc1:=P1.o.c1
     go_wp2_with fail
     refine (laid_calls body.length (by omega) _).mono ?_
     rintro e w2 ⟨v2,rfl,ho2,hb2⟩
     have P2:=Zz (P1.o.call hb2)
     have HO2:=Zz ho2
     have ht2:(three body.length).length ≤ 3:=lR _
     generalize three body.length = t2 at *
     obtain ⟨A2,c2,rfl,_,_⟩:=Kd.own_slice ho2
     have HM2:=Zz (Kd.own_sl (ok':=T) HO2.o (fun _ _=>trivial) (fun _ _=>trivial))
     clear ho2 hb2 hc0 hc1
     obtain ⟨Ax,cx,rfl,_,_⟩:=Kd.own_slice P2.o.own
     go_upto_region 15 with (at_builtin;go_loud (refine Kd.own_app byteK w.heap.size rfl (.tmp 58) (.tmp 62) 55 5 (.int .u8 0) 1 rfl Tryz.underlying55 info_u8 rfl (by decide) (.slice Ax p1.length cx) p1 t2 A2 c2 T (by simp [Act.eval,Act.put]) (by simp [Act.eval,Act.put]) P2.o.own (.inr ⟨HM2.o,any_u8⟩) P2.o.bel P2.o.bel.size (by omega) ?_);intro v3 w3 ho3 hb3 hg3 hv3;go_loud (have P3:=Zz (P2.o.app ho3 hb3 hg3 (hv3.imp (fun e=>e) (fun e=>⟨_,e,lR _⟩))));clear ho3 hb3 hg3 hv3)
     have hp2:(p1 ++ t2).length ≤ 66:=by simp;omega
     generalize p1 ++ t2 = p2 at *
     have hc1:=P3.o.c1
     have HS3:=Zz (Kd.M_below P3.o.body (bel_alloc (bR _ _) (.cells #[.slice A' body.length c'] 55)))
     go_wp2_with fail
     refine (sum_calls [body] (some ⟨w3.heap.size,0,none⟩) _ T _ (by simp [maxLen]) (one_row rfl P3.o.body)).mono ?_
     rintro e w4 ⟨rfl,rfl⟩
     rw [show [body].flatten = body by simp]
     have P4:=Zz (P3.o.call (bel_alloc (bR _ _) (.cells #[.slice A' body.length c'] 55)))
     have hcr:=crc_lt body
     generalize crc body = cr at *
     clear hc1
     go_wp2_with fail
     refine (laid_calls cr hcr _).mono ?_
     rintro e w5 ⟨v5,rfl,ho5,hb5⟩
     have P5:=Zz (P4.o.call hb5)
     have HO5:=Zz ho5
     have ht5:(three cr).length ≤ 3:=lR _
     generalize three cr = t5 at *
     obtain ⟨A5,c5,rfl,_,_⟩:=Kd.own_slice ho5
     have HM5:=Zz (Kd.own_sl (ok':=T) HO5.o (fun _ _=>trivial) (fun _ _=>trivial))
     clear ho5 hb5
     obtain ⟨Ay,cy,rfl,_,_⟩:=Kd.own_slice P5.o.own
     go_wp2_with (at_builtin;go_loud (refine Kd.own_app byteK w.heap.size rfl (.tmp 64) (.tmp 69) 55 5 (.int .u8 0) 1 rfl Tryz.underlying55 info_u8 rfl (by decide) (.slice Ay p2.length cy) p2 t5 A5 c5 T (by simp [Act.eval,Act.put]) (by simp [Act.eval,Act.put]) P5.o.own (.inr ⟨HM5.o,any_u8⟩) P5.o.bel P5.o.bel.size (by omega) ?_);intro v6 w6 ho6 hb6 hg6 hv6;go_loud (have P6:=Zz (P5.o.app ho6 hb6 hg6 (hv6.imp (fun e=>e) (fun e=>⟨_,e,lR _⟩))));clear ho6 hb6 hg6 hv6)
     go_roundw
     case rel=>exact ⟨k + 1,S + body.length,id,by omega,by go_num,rfl,rfl,Zz (by rw [HT1.o,HS.o];omega),by omega,by omega,Zz HT4.o.symm,i0,Zz (by rw [HT3.o,HRi.o,← HLL.o];simp;omega),Zz (by rw [HT2'.o];exact P6.o.own),Zz P6.o.bel⟩
     case measure=>simp [intOf];omega
   ·
    obtain rfl:k = l.length:=by omega
    rw [List.take_of_length_le (lR _)] at *
    have hM:May l:=⟨by omega,HRi.o,by have:=HS.o;omega⟩
    have HM:=Zz hM
    clear hM
    have HH:Hid (title ++ [UInt8.ofNat l.length] ++ heads l = header l):=Zz (by simp [header])
    rw [HH.o] at HO
    have hhl:(header l).length ≤ 62:=by rw [header_length];omega
    have HF:Hid (header l ++ three (crc (header l)) ++ bodies l = file l):=Zz rfl
    generalize header l = hd at *
    clear HH HS HLL HRi
    obtain ⟨Ab,cb,rfl,_,_⟩:=Kd.own_slice HO.o
    have HS0:=Zz (Kd.own_sl (ok':=T) HO.o (fun _ _=>trivial) (fun _ _=>trivial))
    go_wp2_with fail
    refine (sum_calls [hd] (some ⟨wr.heap.size,0,none⟩) _ T _ (by simp [maxLen]) (one_row rfl HS0.o)).mono ?_
    rintro e w4 ⟨rfl,rfl⟩
    rw [show [hd].flatten = hd by simp]
    have HO4:=Zz (Kd.own_alloc HO.o (.cells #[.slice Ab hd.length cb] 55))
    have HB4:=Zz (bel_alloc HB.o (.cells #[.slice Ab hd.length cb] 55))
    have hcr:=crc_lt hd
    generalize crc hd = cr at *
    generalize wr.alloc (.cells #[.slice Ab hd.length cb] 55) = w4 at *
    go_wp2_with fail
    refine (laid_calls cr hcr _).mono ?_
    rintro e w5 ⟨v5,rfl,ho5,hb5⟩
    have HO5:=Zz ho5
    have HP5:=Zz (Kd.own_below HO4.o hb5)
    have HB5:=Zz (bel_step HB4.o hb5)
    have ht5:(three cr).length ≤ 3:=lR _
    generalize three cr = t5 at *
    obtain ⟨A5,c5,rfl,_,_⟩:=Kd.own_slice ho5
    have HM5:=Zz (Kd.own_sl (ok':=T) HO5.o (fun _ _=>trivial) (fun _ _=>trivial))
    clear ho5 hb5
    go_wp2_with (at_builtin;go_loud (refine Kd.own_app byteK w.heap.size rfl (.tmp 72) (.tmp 76) 55 5 (.int .u8 0) 1 rfl Tryz.underlying55 info_u8 rfl (by decide) (.slice Ab hd.length cb) hd t5 A5 c5 T (by simp [Act.eval,Act.put]) (by simp [Act.eval,Act.put]) HP5.o (.inr ⟨HM5.o,any_u8⟩) HB5.o HB5.o.size (by omega) ?_);intro v6 w6 ho6 hb6 hg6 hv6;have HO6:=Zz ho6;have HB6:=Zz hb6;clear ho6 hb6 hg6 hv6)
    have hp6:(hd ++ t5).length ≤ 65:=by simp;omega
    generalize hd ++ t5 = p6 at *
    have ht:=HM.o.2.2
    go_loopw [4,80] (fun vb vi wq=>∃ k:Nat,k ≤ l.length∧vi = .int .i64 k∧Hid (byteK.own 5 wq w.heap.size T vb (p6 ++ bodies (l.take k)))∧Hid (Below w.heap.size w wq)) (fun _ vi _=>l.length - (intOf vi).toNat)
    case atStart=>exact ⟨0,by omega,rfl,Zz (by simpa [bodies] using HO6.o),HB6⟩
    case round =>
     obtain ⟨k,hk',rfl,HOq,HBq⟩:=hrel
     by_cases hlt':k < l.length
     ·
      obtain ⟨b,off,A',c',rfl,hbl,hc0,hc1,hid,hbody⟩:=sec_at (Kd.row_old HR.o HBq.o) k hlt'
      have HT2:=Zz (bodies_snoc l k hlt')
      have hT3:(bodies (l.take k)).length + l[k].2.length ≤ 100000:=by
       have e1:=total_snoc l k hlt'
       have e2:=total_take l (k + 1)
       rw [bodies_length]
       omega
      have HBY:=Zz (Kd.M_below hbody (bel_alloc (bR _ _) (.cells #[.int .i64 l[k].1,.slice A' l[k].2.length c'] 82)))
      clear hbody
      have hpq:(p6 ++ bodies (l.take k)).length = p6.length + (bodies (l.take k)).length:=by simp
      have hpq':(p6 ++ bodies (l.take k)).length + l[k].2.length ≤ 100065:=by omega
      clear hpq hT3
      generalize hx:l[k] = x at *
      clear hx
      obtain ⟨id,body⟩:=x
      dsimp only at *
      have HT3:Hid (p6 ++ bodies (l.take (k + 1)) = (p6 ++ bodies (l.take k)) ++ body):=Zz (by rw [HT2.o,List.append_assoc])
      generalize p6 ++ bodies (l.take k) = pq at *
      obtain ⟨Aq,cq,rfl,_,_⟩:=Kd.own_slice HOq.o
      have HOr:=Zz (Kd.own_alloc HOq.o (.cells #[.int .i64 id,.slice A' body.length c'] 82))
      have HBr:=Zz (bel_alloc HBq.o (.cells #[.int .i64 id,.slice A' body.length c'] 82))
      go_wp2_with (at_builtin;go_loud (refine Kd.own_app byteK w.heap.size rfl (.tmp 84) (.tmp 86) 55 5 (.int .u8 0) 1 rfl Tryz.underlying55 info_u8 rfl (by decide) (.slice Aq pq.length cq) pq body A' c' T (by simp [Act.eval,Act.put]) (by simp [Act.eval,Act.put]) HOr.o (.inr ⟨byteK.sl.mono (fun _ _ _=>trivial) HBY.o,any_u8⟩) HBr.o HBr.o.size (by omega) ?_);intro v7 w7 ho7 hb7 hg7 hv7;have HO7:=Zz ho7;have HB7:=Zz hb7;clear ho7 hb7 hg7 hv7)
      go_roundw
      case rel=>exact ⟨k + 1,by omega,by go_num,Zz (by rw [HT3.o];exact HO7.o),HB7⟩
      case measure=>simp [intOf];omega
     ·
      obtain rfl:k = l.length:=by omega
      rw [List.take_of_length_le (lR _)] at HOq
      go_wp2_with fail
      go_ret2
      exact ⟨HBq.o,.inl ⟨HM.o,_,rfl,by rw [← HF.o];exact HOq.o⟩⟩
end BoxPack
namespace Encode
open Go.RowKit Go.Lib B Rd TermPure LinesPure Tri SortP OrdG TermW Cmp StoreW Clones Search FrontP FrontW PackW StoreP IdsCmp IdsW IdsAll
theorem strs_snoc (l:List (List UInt8)) (k:Nat) (h:k < l.length):strs (l.take k) ++ [mkS l[k]] = strs (l.take (k + 1)):=by
 unfold strs
 rw [List.take_succ_eq_append_getElem h,List.map_append]
 try rfl
theorem nums_snoc (I:List Ids) (k:Nat) (h:k < I.length):natZ (nums (I.take k)) ++ [(I[k].a:Int),(I[k].b:Int),(I[k].c:Int)] = natZ (nums (I.take (k + 1))):=by
 unfold nums natZ
 rw [List.take_succ_eq_append_getElem h,List.flatMap_append,List.map_append]
 simp
theorem three_ints (W:World) (a b c:Nat) (ha:a ≤ 1000000) (hb:b ≤ 1000000) (hc:c ≤ 1000000):intK.sl.M (W.alloc (.cells #[.int .i64 (a:Int),.int .i64 (b:Int),.int .i64 (c:Int)] 40)) (fun _=>True) [(a:Int),(b:Int),(c:Int)] [.slice (some ⟨W.heap.size,0,none⟩) 3 3]:=by
 refine ⟨some ⟨W.heap.size,0,none⟩,3,rfl,lR _,⟨by simp,by unfold maxLen;omega⟩,fun h=>(by cases h),fun i x hx=>?_⟩
 match i with
 | 0 =>
  simp at hx
  subst hx
  refine ⟨_,[.int .i64 (a:Int)],rfl,trivial,⟨rfl,by omega⟩,fun j u hu=>?_⟩
  rw [add_plain,World.cell?,Kd.heap_new]
  match j with
  | 0=>simp at hu;subst hu;rfl
  | j + 1=>simp at hu
 | 1 =>
  simp at hx
  subst hx
  refine ⟨_,[.int .i64 (b:Int)],rfl,trivial,⟨rfl,by omega⟩,fun j u hu=>?_⟩
  rw [add_plain,World.cell?,Kd.heap_new]
  match j with
  | 0=>simp at hu;subst hu;rfl
  | j + 1=>simp at hu
 | 2 =>
  simp at hx
  subst hx
  refine ⟨_,[.int .i64 (c:Int)],rfl,trivial,⟨rfl,by omega⟩,fun j u hu=>?_⟩
  rw [add_plain,World.cell?,Kd.heap_new]
  match j with
  | 0=>simp at hu;subst hu;rfl
  | j + 1=>simp at hu
 | i + 3=>simp at hx
theorem ids_row {w:World} {ok:Nat → Prop} {l:List Ids} {A:Option Addr} {c:Nat} (h:idsK.sl.M w ok l [.slice A l.length c]) (hp:0 < l.length) :
  ∃ b off,A = some ⟨b,off,none⟩∧b < w.heap.size∧∀ i (hi:i < l.length),I3 w b (off + i * 3) l[i]:=by
 obtain ⟨A',c',he,hlc,_,hA,hrow⟩:=h
 obtain ⟨rfl,rfl⟩:A = A'∧c = c':=by simpa using he
 obtain ⟨b,off,hAe,_,hb,hcells⟩:=Kd.row_addr hrow hp
 refine ⟨b,off,hAe,hb,fun i hi=>?_⟩
 obtain ⟨cs,⟨hcs,_⟩,hcell⟩:=hcells i hi
 subst hcs
 exact I3.of hcell
theorem dict_below {w w':World} {g:Nat} {l:List (List UInt8)} (h:DictAt w (fun _=>True) g l) (hb:Below w.heap.size w w'):DictAt w' (fun _=>True) g l:=by
 obtain ⟨A,c,hc,hM⟩:=h
 exact ⟨A,c,(hb.cell (p:=⟨g,0,none⟩) (cell_lt hc)).trans hc,strK.sl.mono (fun _ _ _=>trivial) (Kd.M_below (Kd.M_bound hM) hb)⟩
theorem wrap_a (n:Nat) (h:n ≤ 100):IntKind.u8.wrap (IntKind.i64.wrap ((n:Int) / 256)) = (n:Int) / 256:=by
 rw [IntKind.wrap_i64,IntKind.wrap_u8']
 omega
theorem wrap_b (n:Nat) (h:n ≤ 100):IntKind.u8.wrap ((n:Int).tmod 256) = (n:Int) % 256:=by
 rw [Int.tmod_eq_emod_of_nonneg (by omega),IntKind.wrap_u8']
 omega
theorem two_secs {W:World} {i1 i2:Int} {b1 b2:List UInt8} {u1 u2:Value} (h1:byteK.sl.M W (fun _=>True) b1 [u1]) (h2:byteK.sl.M W (fun _=>True) b2 [u2]) (f1:0 ≤ i1∧i1 ≤ 255) (f2:0 ≤ i2∧i2 ≤ 255) :
  BoxPack.secK.sl.M (W.alloc (.cells #[.int .i64 i1,u1,.int .i64 i2,u2] 82)) (fun _=>True) [(i1,b1),(i2,b2)] [.slice (some ⟨W.heap.size,0,none⟩) 2 2]:=by
 have hb:Below W.heap.size W (W.alloc (.cells #[.int .i64 i1,u1,.int .i64 i2,u2] 82)):=bel_alloc (bR _ _) _
 have m1:=byteK.sl.mono (ok':=fun _=>True) (fun _ _ _=>trivial) (Kd.M_below (Kd.M_bound h1) hb)
 have m2:=byteK.sl.mono (ok':=fun _=>True) (fun _ _ _=>trivial) (Kd.M_below (Kd.M_bound h2) hb)
 refine ⟨some ⟨W.heap.size,0,none⟩,2,rfl,lR _,⟨by simp,by unfold maxLen;omega⟩,fun h=>(by cases h),fun i x hx=>?_⟩
 match i with
 | 0 =>
  simp at hx
  subst hx
  refine ⟨_,[.int .i64 i1,u1],rfl,trivial,⟨[.int .i64 i1],[u1],rfl,⟨rfl,by dsimp only;omega⟩,m1⟩,fun j u hu=>?_⟩
  rw [add_plain,World.cell?,Kd.heap_new]
  match j with
  | 0=>simp at hu;subst hu;rfl
  | 1=>simp at hu;subst hu;rfl
  | j + 2=>simp at hu
 | 1 =>
  simp at hx
  subst hx
  refine ⟨_,[.int .i64 i2,u2],rfl,trivial,⟨[.int .i64 i2],[u2],rfl,⟨rfl,by dsimp only;omega⟩,m2⟩,fun j u hu=>?_⟩
  rw [add_plain,World.cell?,Kd.heap_new]
  match j with
  | 0=>simp at hu;subst hu;rfl
  | 1=>simp at hu;subst hu;rfl
  | j + 2=>simp at hu
 | i + 2=>simp at hx
theorem pack_enc {T:List Triple} (h:Valid T) (hl:T.length ≤ 100) (v:Value) (w:World) (m:BoxPack.secK.sl.M w (fun _=>True) (secs2 T) [v]) :
  Calls Tryz.prog 60 #[v] w fun e w'=>(∃ u,e = .returned (.tuple #[u,.int .i64 0])∧byteK.own 5 w' w.heap.size (fun _=>True) u (encT T))∧Below w.heap.size w w':=by
 refine (BoxPack.pack_calls (secs2 T) v w m).mono ?_
 rintro e w' ⟨hb,⟨_,u,he,ho⟩ | ⟨hn,_⟩⟩
 ·
  exact ⟨⟨u,he,ho⟩,hb⟩
 ·
  exact absurd (enc_may h hl) hn
theorem encode_calls (T:List Triple) (hv:Valid T) (hl:T.length ≤ 100) (g:Nat) (w:World) (ok:Nat → Prop) (h:StoreAt w ok g T) :
  Calls Tryz.prog 28 #[.pointer (some ⟨g,0,none⟩)] w fun e w'=>(∃ v,e = .returned v∧byteK.own 5 w' w.heap.size (fun _=>True) v (encT T))∧Below w.heap.size w w':=by
 obtain ⟨_,⟨A0,cp0,hg0,_⟩,⟨A1,cp1,hg1,hM1⟩,r,hg2,hR⟩:=h
 have hglt:g < w.heap.size:=cell_lt hg0
 have HG0:=Zz (fun W (hb:Below w.heap.size w W)=>(hb.cell (p:=⟨g,0,none⟩) hglt).trans hg0)
 have HG1:=Zz (fun W (hb:Below w.heap.size w W)=>(hb.cell (p:=⟨g,1,none⟩) hglt).trans hg1)
 have HG2:=Zz (fun W (hb:Below w.heap.size w W)=>(hb.cell (p:=⟨g,2,none⟩) hglt).trans hg2)
 have HRow:=Zz (fun hp=>term_cells (Kd.M_bound hM1) hp)
 have HRing:=Zz (fun W (hb:Below w.heap.size w W)=>all_calls anyP (idsT T) (by rw [ids_len];exact hl) r W ok (hR.below hb))
 rw [filter_any] at HRing
 unfold patL anyP at HRing
 dsimp only at HRing
 have HV:=Zz hv
 have HTx:Hid (texts T = (termsT T).map shown):=Zz rfl
 have HShort:=Zz (texts_short hv)
 have HRise:=Zz (texts_rise hv)
 have HIs:=Zz (termsT_is hv)
 have hE:=E_len hv hl
 have HPk:=Zz (pack_enc hv hl)
 have HBits:=Zz (nums_bits hv hl)
 have HWide:Hid (wide T = Lib.bitLen (termsT T).length∧wide T ≤ 9):=Zz ⟨rfl,wide_le hv hl⟩
 have HIdl:Hid ((idsT T).length = T.length):=Zz (ids_len T)
 have HIb:Hid (∀ x ∈ idsT T,x.a ≤ 1000∧x.b ≤ 1000∧x.c ≤ 1000):=Zz (fun x hx=>by
  obtain ⟨q1,q2,q3⟩:=Made.good_ids hv hl x hx
  omega)
 have HBl:=Zz (body_len hv hl)
 have HSecs:Hid (secs2 T = [(1,frontB (texts T)),(2,headN T.length ++ packB (nums (idsT T)) (wide T))]):=Zz rfl
 obtain ⟨L,hL⟩:∃ L,L = texts T:=⟨_,rfl⟩
 obtain ⟨E,hEe⟩:∃ E,E = termsT T:=⟨_,rfl⟩
 obtain ⟨I,hI⟩:∃ I,I = idsT T:=⟨_,rfl⟩
 have HLl:Hid (L.length = E.length):=Zz (by rw [hL,hEe];unfold texts;simp)
 rw [← hL] at HTx HShort HRise HSecs
 rw [← hEe] at HTx HG1 HRow HIs hE HWide
 rw [← hI] at HRing HBits HIdl HIb HSecs HBl
 have HO0:Hid (strK.own 9 w w.heap.size Clones.TT (.slice none 0 0) (strs (L.take 0))):=Zz (Kd.own_nil _ _ _ _ _)
 clear hg0 hg1 hg2 hM1 hR hv hL hEe hI
 have k1:=HG1.o w (bR _ _)
 go_enter Tryz.func28,Tryz.ntmps28
 go_wp2
 go_loopw [3,22] (fun v3 vk wr=>∃ k:Nat,vk = .int .i64 k∧k ≤ E.length∧Hid (strK.own 9 wr w.heap.size Clones.TT v3 (strs (L.take k))∧Below w.heap.size w wr)) (fun _ vk _=>E.length - (intOf vk).toNat)
 case atStart=>exact ⟨0,rfl,by omega,Zz ⟨HO0.o,bR _ _⟩⟩
 case round =>
  obtain ⟨k,rfl,hk,HI⟩:=hrel
  clear HO0 k1
  obtain ⟨X,hX⟩:∃ X,X = strs (L.take k):=⟨_,rfl⟩
  rw [← hX] at HI
  have HXe:=Zz hX
  clear hX
  obtain ⟨A3,c3,rfl,_,_⟩:=Kd.own_slice HI.o.1
  by_cases hlt:k < E.length
  ·
   have hd:decide (k < E.length) = true:=dT hlt
   have ik:(k:Int) < (E.length:Int):=by omega
   obtain ⟨b,off,rfl,_,hbs,hcells⟩:=HRow.o (by omega)
   have hcx:=(hcells k hlt).below HI.o.2
   have hkL:k < L.length:=by rw [HLl.o];exact hlt
   have hsn:=strs_snoc L k hkL
   have hsh:=HShort.o _ (List.getElem_mem hkL)
   have hLk:L[k] = shown E[k]:=by
    have:∀ (X:List (List UInt8)) (hx:X = E.map shown) (h:k < X.length),X[k] = shown E[k]:=by rintro X rfl h;simp
    exact this L HTx.o hkL
   obtain ⟨x,hx⟩:∃ x,x = E[k]:=⟨_,rfl⟩
   rw [← hx] at hcx hLk
   have hxi:=HIs.o x (by rw [hx];exact List.getElem_mem hlt)
   rw [hLk] at hsn hsh
   obtain ⟨S1,hS1⟩:∃ S1,S1 = shown x:=⟨_,rfl⟩
   have HSh:=Zz (fun W=>Show.show_calls x (by have:=ParseP.is_small hxi;omega) (by have:=ParseP.is_small hxi;omega) W)
   rw [← hS1] at hsn hsh HSh
   have hbx:Below wr.heap.size wr (wr.alloc (.cells (termL x).toArray 24)):=bel_alloc (bR _ _) _
   have hnx:=C3.new wr x
   obtain ⟨w0,hw0⟩:∃ w0,w0 = wr.alloc (.cells (termL x).toArray 24):=⟨_,rfl⟩
   rw [← hw0] at hbx hnx
   have HW:Hid (wr.alloc (.cells (termL x).toArray 24) = w0):=Zz hw0.symm
   have HB0:=Zz (bel_step HI.o.2 hbx)
   have HO1:=Zz (Kd.own_below HI.o.1 hbx)
   have HSn:=Zz hsn
   have zS:=mkS_size S1
   have HSz:Hid ((mkS S1).size ≤ 140737488355328):=Zz (by rw [zS];omega)
   have hlk:X.length ≤ 300:=by rw [HXe.o,strs_len,List.length_take];omega
   rw [← HXe.o] at HSn
   obtain ⟨x0,x1,x2⟩:=hcx
   obtain ⟨y0,y1,y2⟩:=hnx
   simp only [Nat.zero_add] at y1 y2
   clear hcells hkL hsn hsh hLk hx hxi hS1 hbx hw0 HI
   obtain ⟨xk,xt,xe⟩:=x
   unfold Ref5.termV at HSh
   unfold termL at HW
   dsimp only at x0 x1 x2 y0 y1 y2 HSh HW
   go_upto_region 7 with fail
   rw [HW.o]
   clear x0 x1 x2 HW
   go_wp2_with (first
    | (go_at_call 56;refine (HSh.o _).mono ?_;rintro e w2 ⟨rfl,hb⟩;have HB2:=Zz (bel_step HB0.o hb);have HO2:=Zz (Kd.own_below HO1.o hb);clear hb)
    | (at_builtin;refine Kd.own_app1 strK (w0:=w2) w.heap.size rfl (.tmp 26) (.tmp 29) 51 9 zero_str 16 rfl Tryz.underlying51 info_str rfl (by decide) _ X (mkS S1) [.string (mkS S1)] Clones.TT (by rfl) (by rfl) HO2.o ⟨rfl,HSz.o⟩ (bR _ _) HB2.o.size (by omega) ?_;intro v1 w3 ho1 hb1 hg1 hv1;clear hg1 hv1;rw [HSn.o] at ho1;have HO3:=Zz ho1;have HB3:=Zz (HB2.o.trans hb1);clear ho1 hb1;obtain ⟨A5,c5,rfl,_,_⟩:=Kd.own_slice HO3.o))
   go_roundw
   case rel=>exact ⟨k + 1,by go_num,by omega,Zz ⟨HO3.o,HB3.o⟩⟩
   case measure=>simp [intOf];omega
  ·
   have hd:decide (k < E.length) = false:=dF hlt
   have hxl:X.length = L.length:=by rw [HXe.o,List.take_of_length_le (by rw [HLl.o];omega),strs_len]
   have HXL:Hid (X = strs L):=Zz (by rw [HXe.o,List.take_of_length_le (by rw [HLl.o];omega)])
   have HOx:=Zz HI.o.1
   have HBx:=Zz HI.o.2
   have k2:=HG2.o wr HBx.o
   have HRi:=Zz (HRing.o wr HBx.o)
   have HXlen:=Zz hxl
   clear HI hxl HRow HXe
   go_wp2_with fail
   refine HRi.o.mono ?_
   rintro e w5 ⟨⟨A4,c4,rfl,hM4⟩,hb⟩
   have HB5:=Zz (bel_step HBx.o hb)
   have HO5:=Zz (Kd.own_below HOx.o hb)
   have HRI:=Zz (fun hp=>ids_row hM4 hp)
   have HN0:Hid (intK.own 3 w5 w5.heap.size Clones.TT (.slice none 0 0) (natZ (nums (I.take 0)))):=Zz (Kd.own_nil _ _ _ _ _)
   have hIl:I.length ≤ 100:=by rw [HIdl.o];exact hl
   clear hM4 hb HRi HRing HOx HBx k2
   go_wp2
   go_loopw [6,39] (fun v6 vk wr=>∃ k:Nat,vk = .int .i64 k∧k ≤ I.length∧Hid (intK.own 3 wr w5.heap.size Clones.TT v6 (natZ (nums (I.take k)))∧Below w5.heap.size w5 wr)) (fun _ vk _=>I.length - (intOf vk).toNat)
   case atStart=>exact ⟨0,rfl,by omega,Zz ⟨HN0.o,bR _ _⟩⟩
   case round =>
    obtain ⟨k2,rfl,hk2,HJ⟩:=hrel
    clear HN0
    obtain ⟨Y,hY⟩:∃ Y,Y = natZ (nums (I.take k2)):=⟨_,rfl⟩
    rw [← hY] at HJ
    have HYe:=Zz hY
    clear hY
    obtain ⟨A6,c6,rfl,_,_⟩:=Kd.own_slice HJ.o.1
    by_cases hlt2:k2 < I.length
    ·
     have hd2:decide (k2 < I.length) = true:=dT hlt2
     have ik2:(k2:Int) < (I.length:Int):=by omega
     obtain ⟨b,off,rfl,hbs,hcells⟩:=HRI.o (by omega)
     have hcx:=(hcells k2 hlt2).below HJ.o.2
     have hsn:=nums_snoc I k2 hlt2
     obtain ⟨x,hx⟩:∃ x,x = I[k2]:=⟨_,rfl⟩
     rw [← hx] at hcx hsn
     rw [← HYe.o] at hsn
     have hxb:=HIb.o x (by rw [hx];exact List.getElem_mem hlt2)
     have HSn:=Zz hsn
     have hylen:Y.length ≤ 300:=by rw [HYe.o,natZ_len,nums_len,List.length_take];omega
     have x0:=hcx 0 (by decide)
     have x1:=hcx 1 (by decide)
     have x2:=hcx 2 (by decide)
     simp only [Nat.add_zero,at3] at x0 x1 x2
     clear hcells hcx hsn hx
     obtain ⟨xa,xb,xc⟩:=x
     dsimp only at x0 x1 x2 HSn hxb
     have HThree:=Zz (fun W=>three_ints W xa xb xc (by omega) (by omega) (by omega))
     go_wp2_with (at_builtin;refine Kd.own_app intK w5.heap.size rfl (.tmp 43) (.tmp 44) 74 3 zero_int 8 rfl Tryz.underlying74 info_int rfl (by decide) _ Y [(xa:Int),(xb:Int),(xc:Int)] (some ⟨wr.heap.size,0,none⟩) 3 Clones.TT (by rfl) (by rfl) (Kd.own_alloc HJ.o.1 _) (.inr ⟨HThree.o _,Clones.any_int⟩) (bel_alloc HJ.o.2 _) (by have:=HJ.o.2.size;simp;omega) (by simp;omega) ?_;intro v1 w7 ho1 hb1 hg1 hv1;clear hg1 hv1;rw [HSn.o] at ho1;have HO7:=Zz ho1;have HB7:=Zz hb1;clear ho1 hb1;obtain ⟨A7,c7,rfl,_,_⟩:=Kd.own_slice HO7.o)
     go_wp2
     go_roundw
     case rel=>exact ⟨k2 + 1,by go_num,by omega,Zz ⟨HO7.o,HB7.o⟩⟩
     case measure=>simp [intOf];omega
    ·
     have hd2:decide (k2 < I.length) = false:=dF hlt2
     have HYn:Hid (Y = natZ (nums I)):=Zz (by rw [HYe.o,List.take_of_length_le (by omega)])
     have hyl:Y.length = (nums I).length:=by rw [HYn.o,natZ_len]
     have HYl:=Zz hyl
     have hBw:=bel_step HB5.o HJ.o.2
     have HBw:=Zz hBw
     have HNew:=Zz (new_calls L (by rw [HLl.o];exact hE) (fun x hx=>by
      rw [HTx.o] at hx
      obtain ⟨t,ht,rfl⟩:=List.mem_map.1 hx
      have h1:=HShort.o (shown t) (by rw [HTx.o];exact List.mem_map.2 ⟨t,ht,rfl⟩)
      exact ⟨shown_ne (HIs.o t ht),by omega⟩) HRise.o A3 c3 wr (by
       have h1:=Kd.own_sl (ok:=Clones.TT) (ok':=fun _=>True) (Kd.own_below HO5.o HJ.o.2) (fun _ _=>trivial) (fun _ _=>trivial)
       rw [HXL.o,strs_len] at h1
       exact h1))
     rw [← HXlen.o] at HNew
     have HY6:=Zz (Kd.own_sl (ok:=Clones.TT) (ok':=fun _=>True) HJ.o.1 (fun _ _=>trivial) (fun _ _=>trivial))
     clear hyl hBw HJ HRI
     go_wp2_with fail
     refine HNew.o.mono ?_
     rintro e w8 ⟨⟨gd,rfl,hgd,hD⟩,hb⟩
     have HB8:=Zz (bel_step HBw.o hb)
     have HD8:=Zz hD
     have k1:=HG1.o w8 HB8.o
     have HWd:=Zz (width_calls E.length (by omega) w8)
     rw [← HWide.o.1] at HWd
     obtain ⟨wd,hwd⟩:∃ wd,wd = wide T:=⟨_,rfl⟩
     rw [← hwd] at HWd HBits HSecs HBl
     have HW9:Hid (wd ≤ 9):=Zz (by rw [hwd];exact HWide.o.2)
     have HPc:=Zz (pack_calls (nums I) wd (by have:=HW9.o;omega) (by rw [nums_len,HIdl.o];omega) HBits.o A6 c6 w8 (by
      have h1:=Kd.M_bound (Kd.M_below (Kd.M_bound HY6.o) hb)
      rw [HYn.o,natZ_len] at h1
      exact h1))
     rw [← HYl.o] at HPc
     obtain ⟨Pb,hPb⟩:∃ Pb,Pb = packB (nums I) wd:=⟨_,rfl⟩
     rw [← hPb] at HPc HSecs HBl
     obtain ⟨Bd,hBd⟩:∃ Bd,Bd = headN T.length ++ Pb:=⟨_,rfl⟩
     have HBd:=Zz hBd
     rw [← hBd] at HSecs HBl
     obtain ⟨F,hF⟩:∃ F,F = frontB L:=⟨_,rfl⟩
     have HFe:=Zz hF
     rw [← hF] at HSecs
     have hPl:Pb.length ≤ 400:=by have:=HBl.o;rw [hBd,List.length_append] at this;omega
     clear hPb hBd hF
     clear hD hb HNew HY6 hgd hwd
     dsimp only
     go_wp2_with (first
      | (go_at_call 59;refine HWd.o.mono ?_;rintro e w' ⟨rfl,rfl⟩)
      | (go_at_call 58;refine HPc.o.mono ?_;rintro e w9 ⟨⟨v9,rfl,ho9⟩,hb9⟩;have HB9:=Zz (bel_step HB8.o hb9);have HO9:=Zz ho9;have HD9:=Zz (dict_below HD8.o hb9);clear ho9 hb9;obtain ⟨A9,c9,rfl,_,_⟩:=Kd.own_slice HO9.o))
     have HK0:=Zz (fun W (hb:Below w9.heap.size w9 W)=>HG0.o W (bel_step HB9.o hb))
     have hY:=bR w9.heap.size w9
     have k0:=HG0.o w9 HB9.o
     have HRr:=Zz (Kd.own_sl (ok:=Clones.TT) (ok':=fun _=>True) HO9.o (fun _ _=>trivial) (fun _ _=>trivial))
     have HQa:Hid (IntKind.u8.wrap (IntKind.i64.wrap ((T.length:Int) / 256)) = (T.length:Int) / 256):=Zz (wrap_a _ hl)
     have HQb:Hid (IntKind.u8.wrap ((T.length:Int).tmod 256) = (T.length:Int) % 256):=Zz (wrap_b _ hl)
     go_cut [11] (fun v11 wx=>Hid (byteK.own 5 wx w9.heap.size Clones.TT v11 Bd)∧Hid (Below w9.heap.size w9 wx))
     case first =>
      go_region_held3 (fun w'=>w'.cell? ⟨g,0,none⟩ = some (.slice A0 T.length cp0))
       (exact HK0.o _ (by repeat (first | assumption | exact bR _ _ | refine bel_drew ?_ | refine bel_alloc ?_ _)))
       (first
        | (refine Kd.own_app_step byteK (w0:=w9) w9.heap.size (by rfl) (.tmp 77) (.tmp 78) 55 5 (.int .u8 0) 1 (by rfl) Tryz.underlying55 PackW.info_u8 rfl (by decide) (.slice (some ⟨w9.heap.size,0,none⟩) 2 2) (headN T.length) Pb A9 c9 Clones.TT (by rfl) (by rfl) ?ho (.inr ⟨?hr,any_u8⟩) ?hb ?hs ?hl ?_;go_loud (case hl=>have hh2:(headN T.length).length = 2:=rfl;omega);go_loud (case ho=>(rw [HQa.o,HQb.o];refine Kd.own_drew ?_;exact head_own _ _ _ (lR _) (by omega)));go_loud (case hr=>exact byteK.sl.mono (fun _ _ _=>trivial) (Kd.M_below (Kd.M_bound HRr.o) (by repeat (first | assumption | exact bR _ _ | refine bel_drew ?_ | refine bel_alloc ?_ _))));go_loud (case hb=>repeat (first | assumption | exact bR _ _ | refine bel_drew ?_ | refine bel_alloc ?_ _));go_loud (case hs=>first | (simp;done) | (simp;omega) | omega);intro v1 w10 ho1 hb1 hg1 hv1;go_loud (rw [← HBd.o] at ho1);have HO10:=Zz ho1;have HB10:=Zz hb1;clear ho1 hg1 hv1)
        | fail)
      all_goals (go_wp2_with fail;go_meet;exact ⟨HO10,HB10⟩)
     case rest =>
      obtain ⟨HO10,HB10⟩:=hcut
      have HBw10:=Zz (bel_step HB9.o HB10.o)
      have HD10:=Zz (dict_below HD9.o HB10.o)
      obtain ⟨A10,c10,rfl,_,_⟩:=Kd.own_slice HO10.o
      have HBy:=Zz (bytes_calls L (by rw [HLl.o];exact hE) (fun x hx=>by have:=HShort.o x hx;omega) gd wc HD10.o)
      rw [← HFe.o] at HBy
      have HSw:=Zz (Kd.own_sl (ok:=Clones.TT) (ok':=fun _=>True) HO10.o (fun _ _=>trivial) (fun _ _=>trivial))
      clear k0 hY HK0 HRr
      go_wp2_with (first
       | (go_at_call 61;refine HBy.o.mono ?_;rintro e w11 ⟨⟨v11,rfl,ho⟩,hb⟩;have HB11:=Zz (bel_step HBw10.o hb);have HSf:=Zz (Kd.own_sl (ok:=Clones.TT) (ok':=fun _=>True) ho (fun _ _=>trivial) (fun _ _=>trivial));have HSb:=Zz (byteK.sl.mono (ok':=fun _=>True) (fun _ _ _=>trivial) (Kd.M_below (Kd.M_bound HSw.o) hb));obtain ⟨A11,c11,rfl,_,_⟩:=Kd.own_slice ho;clear ho hb)
       | (go_at_call 60;refine (HPk.o _ _ (by rw [HSecs.o];exact two_secs HSf.o HSb.o (by omega) (by omega))).mono ?_;rintro e w12 ⟨⟨u,rfl,ho⟩,hb⟩;have HB12:=Zz (bel_step (bel_alloc HB11.o _) hb);have HOe:=Zz (Kd.own_lower (base':=w.heap.size) (by have:=HB11.o.size;simp;omega) ho);clear ho hb))
      go_ret
      exact ⟨⟨_,rfl,HOe.o⟩,HB12.o⟩
end Encode
namespace SCommon
open Go.RowKit Go.Lib B Rd TermPure LinesPure Tri SortP OrdG Print Cmp Long Long11 StoreW StoreM Env ParseP Parse ParseOk SPrint StoreP Encode SortW
theorem load_print (l:List Triple) (hv:Valid l) (hl:l.length ≤ 100) (x:List UInt8) (hx:x = l.flatMap lineN) (hs:x.length ≤ 20000) (w:World) (he:Env w) :
  Calls Tryz.prog 15 #[.string (mkS x)] w fun e w'=>(∃ g,e = .returned (.tuple #[.pointer (some ⟨g,0,none⟩),.int .i64 (l.length:Nat),.int .i64 0])∧StoreAt w' (fun _=>True) g (sortT l))∧Below w.heap.size w w':=by
 have hp:parse x = (sortT l,l.length,0):=by rw [hx];exact parse_print hv hl (by rw [← hx];exact hs)
 refine (load_good x (by omega) w he (by rw [hp])).mono ?_
 rintro e w' ⟨⟨g,he,hS⟩,hb⟩
 rw [hp] at he hS
 exact ⟨⟨g,he,hS.mono (fun _ _ _=>trivial)⟩,hb⟩
theorem conv_row {w W:World} {l:List UInt8} {A:Option Addr} {c:Nat} (h:byteK.sl.M w (fun _=>True) l [.slice A l.length c]) (hb:Below w.heap.size w W):(convert 55 9 (.slice A l.length c)).run Tryz.prog W = .ok (.string (mkS l)) W:=by
 have hm:=Kd.M_below (Kd.M_bound h) hb
 obtain ⟨A',c',he,_,_,_,hr⟩:=hm
 obtain ⟨rfl,rfl⟩:A = A'∧c = c':=by simpa using he
 exact conv_string (P:=Tryz.prog) Tryz.underlying55 Tryz.underlying5 Tryz.underlying9 hr
end SCommon
namespace PutE
open Go.RowKit Go.Lib B Rd TermPure LinesPure Tri SortP OrdG TermW Cmp Search Clones
def putL (l:List Term) (t:Term):List Term:=putE (fun a b=>decide (ltTm a b)) l t
theorem cellsE:(Tryz.prog).cellsOf 24 = termK.sz:=by kernel_rfl
theorem three {w:World} {g:Nat} {t:Term} (h:C3 w g 0 t):w.cell? ⟨g,0,none⟩ = some (.int .i64 t.kind)∧w.cell? ⟨g,1,none⟩ = some (.string (mkS t.text))∧w.cell? ⟨g,2,none⟩ = some (.string (mkS t.extra)):=by
 obtain ⟨c0,c1,c2⟩:=h
 simp only [Nat.zero_add] at *
 exact ⟨c0,c1,c2⟩
theorem row_of {w1:World} {g:Nat} {t:Term} (ht:FitsW t) (h:C3 w1 g 0 t):termK.sl.M w1 (fun _=>True) [t] [.slice (some ⟨g,0,none⟩) 1 1]:=by
 refine ⟨some ⟨g,0,none⟩,1,rfl,lR _,⟨by simp,by unfold maxLen;omega⟩,fun h=>(by cases h),fun i x hx=>?_⟩
 cases i with
 | zero =>
  simp at hx
  subst hx
  refine ⟨_,termL t,rfl,trivial,⟨rfl,ht⟩,fun j u hu=>?_⟩
  rw [Nat.zero_mul,Nat.zero_add,add_plain]
  obtain ⟨c0,c1,c2⟩:=h
  have hj:j < 3:=(List.getElem?_eq_some_iff.1 hu).1
  match j,hj with
  | 0,_=>cases hu;exact c0
  | 1,_=>cases hu;exact c1
  | 2,_=>cases hu;exact c2
 | succ i=>simp at hx
theorem one_row (w:World) (t:Term) (ht:FitsW t):termK.sl.M (w.alloc (.cells (termL t).toArray 24)) (fun _=>True) [t] [.slice (some ⟨w.heap.size,0,none⟩) 1 1]:=row_of ht (C3.new w t)
theorem one_grown {W w1:World} {g:Nat} {r:Option Nat} {t:Term} (ht:FitsW t) (h:C3 W g 0 t) (hg:W.grownBy w1 r) (hne:some g ≠ r):termK.sl.M w1 (fun _=>True) [t] [.slice (some ⟨g,0,none⟩) 1 1]:=
 row_of ht (h.moved (hg.block g h.lt hne))
theorem own0_1 (w:World):termK.own 24 (w.alloc (.cells #[] 24)) w.heap.size TT (.slice (some ⟨w.heap.size,0,none⟩) 0 0) []:=
 Kd.own_block (cells:=[]) (xs:=[]) (lR _) (Kd.heap_new _ _) rfl (by simp) (fun i x h=>by simp at h)
theorem own0_2 (w:World) (o:Obj):termK.own 24 ((w.alloc o).alloc (.cells #[] 24)) w.heap.size TT (.slice (some ⟨w.heap.size + 1,0,none⟩) 0 0) []:=by
 have h:=own0_1 (w.alloc o)
 rw [show (w.alloc o).heap.size = w.heap.size + 1 by simp] at h
 exact Kd.own_lower (by omega) h
theorem C3_new1 (w:World) (o:Obj) (t:Term):C3 ((w.alloc o).alloc (.cells (termL t).toArray 24)).drew (w.heap.size + 1) 0 t:=by
 have h:=C3.new (w.alloc o) t
 rw [show (w.alloc o).heap.size = w.heap.size + 1 by simp] at h
 exact h.moved rfl
theorem C3_new2 (w:World) (t:Term) (o:Obj):C3 ((w.alloc (.cells (termL t).toArray 24)).alloc o).drew w.heap.size 0 t:=
 ((C3.new w t).below (bel_alloc (bR _ _) o)).moved rfl
theorem put_same:∀ (l:List Term) (t:Term) (i:Nat) (hi:i < l.length),(∀ j (h:j < l.length),j < i → ltTm l[j] t) → l[i] = t → putL l t = l
 | [],_,_,h,_,_=>by simp at h
 | x :: l,t,0,_,_,h0=>by
  rw [List.getElem_cons_zero] at h0
  unfold putL
  rw [putE,if_neg (by simp only [decide_eq_true_eq,h0];exact List.lt_irrefl _),if_pos h0]
 | x :: l,t,i + 1,hi,hlt,h0=>by
  have h1:=hlt 0 (by simp) (by omega)
  rw [List.getElem_cons_zero] at h1
  have ih:=put_same l t i (by simpa using hi) (fun j h hj=>by have:=hlt (j + 1) (by simpa using h) (by omega);rw [List.getElem_cons_succ] at this;exact this) (by rw [List.getElem_cons_succ] at h0;exact h0)
  unfold putL at ih ⊢
  rw [putE,if_pos (dT h1),ih]
theorem put_ins:∀ (l:List Term) (t:Term) (i:Nat),i ≤ l.length → (∀ j (h:j < l.length),j < i → ltTm l[j] t) → (∀ h:i < l.length,¬ ltTm l[i] t∧l[i] ≠ t) → putL l t = l.take i ++ [t] ++ l.drop i
 | [],_,i,_,_,_=>by simp [putL,putE]
 | x :: l,t,0,_,_,h0=>by
  have:=h0 (by simp)
  rw [List.getElem_cons_zero] at this
  unfold putL
  rw [putE,if_neg (by simp only [decide_eq_true_eq];exact this.1),if_neg this.2]
  simp
 | x :: l,t,i + 1,hi,hlt,h0=>by
  have h1:=hlt 0 (by simp) (by omega)
  rw [List.getElem_cons_zero] at h1
  have ih:=put_ins l t i (by simpa using hi) (fun j h hj=>by have:=hlt (j + 1) (by simpa using h) (by omega);rw [List.getElem_cons_succ] at this;exact this) (fun h=>by have:=h0 (by simpa using h);rw [List.getElem_cons_succ] at this;exact this)
  unfold putL at ih ⊢
  rw [putE,if_pos (dT h1),ih]
  simp
theorem put_calls (l:List Term) (t:Term) (A:Option Addr) (c:Nat) (w:World) (ok:Nat → Prop) (HLo:termK.sl.M w ok l [.slice A l.length c]) (HL:termK.sl.M w (fun k=>k < w.heap.size) l [.slice A l.length c]) (hs:∀ x ∈ l,SmallM x) (hst:SmallM t) (hft:FitsW t) (hb:l.length ≤ 1000000) :
  Calls Tryz.prog 48 #[.slice A l.length c,Ref5.termV t] w fun e w'=>∃ A' c',e = .returned (.slice A' (putL l t).length c')∧termK.sl.M w' (fun k=>ok k ∨ w.heap.size ≤ k) (putL l t) [.slice A' (putL l t).length c']∧Below w.heap.size w w':=by
 have HLO:=Zz HLo
 clear HLo
 have HR:=Zz (fun hp=>term_cells HL hp)
 have HS:=Zz hs
 obtain ⟨A',c',he,hlc,⟨hl47,hcm⟩,hA,hrow⟩:=HL
 obtain ⟨rfl,rfl⟩:A = A'∧c = c':=by simpa using he
 clear he
 have HROW:Hid (termK.row w TT A l):=Zz (Kd.row_mono (fun _ _ _=>trivial) hrow)
 have HC0:=Zz (C3.new w t)
 clear hrow hs
 unfold Ref5.termV
 go_enter Tryz.func48,Tryz.ntmps48
 go_wp2
 go_loopw [5] (fun vi wr=>∃ i:Nat,vi = .int .i64 i∧i ≤ l.length∧Hid ((∀ j (h:j < l.length),j < i → ltTm l[j] t)∧Below w.heap.size w wr∧C3 wr w.heap.size 0 t)) (fun vi _=>l.length - (intOf vi).toNat)
 case atStart=>exact ⟨0,rfl,by omega,Zz ⟨fun j h hj=>by omega,bel_alloc (bR _ _) _,HC0.o⟩⟩
 case round =>
  obtain ⟨i,rfl,hiL,HI⟩:=hrel
  clear HC0
  by_cases hlt:i < l.length
  ·
   have hd:decide (i < l.length) = true:=dT hlt
   have ik:(i:Int) < (l.length:Int):=by omega
   obtain ⟨b,off,rfl,_,hbs,hcells⟩:=HR.o (by omega)
   have hcx:=(hcells i hlt).below HI.o.2.1
   have hcy:=HI.o.2.2
   obtain ⟨x,hx⟩:∃ x,x = l[i]:=⟨_,rfl⟩
   rw [← hx] at hcx
   have HCC:=Zz (fun w=>RefCmp.cmp4_calls x t (by rw [hx];exact HS.o _ (List.getElem_mem hlt)) hst w)
   obtain ⟨v,hv⟩:∃ v,v = cmpTm x t:=⟨_,rfl⟩
   have hvl:v < 0 ↔ ltTm x t:=by rw [hv];exact cmpTm_lt x t
   rw [← hv] at HCC
   have HQ:=Zz (fun W=>TriEq.run_eq_term x t W)
   have HNext:Hid (v < 0 → ∀ j (h:j < l.length),j < i + 1 → ltTm l[j] t):=Zz (fun h j hj hji=>by
    by_cases e:j = i
    ·
     subst e
     rw [← hx]
     exact hvl.1 h
    ·
     exact HI.o.1 j hj (by omega))
   have HSame:Hid (x = t → putL l t = l):=Zz (fun h=>put_same l t i hlt HI.o.1 (by rw [← hx];exact h))
   have HIns:Hid (¬ v < 0 → x ≠ t → putL l t = l.take i ++ [t] ++ l.drop i):=Zz (fun h h'=>put_ins l t i hiL HI.o.1 (fun h2=>by rw [← hx];exact ⟨fun h3=>h (hvl.2 h3),h'⟩))
   have HIW:=Zz HI.o.2
   clear hcells hx hv hvl
   by_cases hv0:v < 0
   ·
    have hvd:decide (v < 0) = true:=dT hv0
    have HNx:=Zz (HNext.o hv0)
    clear HNext HSame HIns hv0 HQ
    obtain ⟨xk,xt,xe⟩:=x
    obtain ⟨yk,yt,ye⟩:=t
    have x0:=fun p=>(hcx.bel p).c0
    have x1:=fun p=>(hcx.bel p).c1
    have x2:=fun p=>(hcx.bel p).c2
    have y0:=fun p=>(hcy.bel p).c0
    have y1:=fun p=>(hcy.bel p).c1
    have y2:=fun p=>(hcy.bel p).c2
    dsimp only at x0 x1 x2 y0 y1 y2
    unfold Ref5.termV at HCC
    dsimp only at HCC
    go_upto_region 2 with fail
    refine QT.region_all (by kernel_rfl) (by kernel_rfl) ?_
    iterate 10 (go_big_quiet_step (fail))
    go_big_quiet_step (exact QT.Bel.call _ (HCC.o _))
    iterate 2 (go_big_quiet_step (fail))
    refine wpQuiet_nil ?_
    intro w2 hw'
    obtain ⟨⟨_,hb⟩,rfl⟩:=hw'
    have HW2:Hid (Below w.heap.size w w2∧C3 w2 w.heap.size 0 ⟨yk,yt,ye⟩):=Zz ⟨bel_step HIW.o.1 hb,hcy.below hb⟩
    clear hb x0 x1 x2 y0 y1 y2 hcx hcy HI HIW
    go_wp2
    go_roundw
    case rel=>exact ⟨i + 1,by go_num,by omega,Zz ⟨HNx.o,HW2.o⟩⟩
    case measure=>simp [intOf];omega
   ·
    have hvd:decide (v < 0) = false:=dF hv0
    by_cases hxt:x = t
    ·
     have HPut:=Zz (HSame.o hxt)
     rw [dT hxt] at HQ
     clear HNext HSame HIns hv0 hxt
     obtain ⟨xk,xt,xe⟩:=x
     obtain ⟨yk,yt,ye⟩:=t
     have x0:=fun p=>(hcx.bel p).c0
     have x1:=fun p=>(hcx.bel p).c1
     have x2:=fun p=>(hcx.bel p).c2
     have y0:=fun p=>(hcy.bel p).c0
     have y1:=fun p=>(hcy.bel p).c1
     have y2:=fun p=>(hcy.bel p).c2
     dsimp only at x0 x1 x2 y0 y1 y2
     unfold Ref5.termV at HCC
     dsimp only at HCC
     go_upto_region 2 with fail
     refine QT.region_all (by kernel_rfl) (by kernel_rfl) ?_
     iterate 10 (go_big_quiet_step (fail))
     go_big_quiet_step (exact QT.Bel.call _ (HCC.o _))
     iterate 2 (go_big_quiet_step (fail))
     refine wpQuiet_nil ?_
     intro w2 hw'
     obtain ⟨⟨_,hb⟩,rfl⟩:=hw'
     have HW2:Hid (Below w.heap.size w w2∧C3 w2 w.heap.size 0 ⟨yk,yt,ye⟩):=Zz ⟨bel_step HIW.o.1 hb,hcy.below hb⟩
     have hcx:=hcx.below hb
     have hcy:=HW2.o.2
     clear hb x0 x1 x2 y0 y1 y2 HI HIW
     go_wp2
     obtain ⟨x0,x1,x2⟩:=id hcx
     obtain ⟨y0,y1,y2⟩:=id hcy
     simp only [Nat.zero_add] at y1 y2
     have hqq:=HQ.o
     dsimp only at x0 x1 x2 y0 y1 y2 hqq
     go_upto_region 4 with fail
     go_quiet (fail)
     have HB3:=Zz (bel_drewN HW2.o.1 nq)
     clear x0 x1 x2 y0 y1 y2 hcx hcy HW2 hqq
     go_wp2
     go_ret
     rw [HPut.o]
     exact ⟨_,_,rfl,termK.sl.mono (fun k hk _=>.inl hk) (termK.sl.move (fun k _ hlt=>HB3.o.block k hlt) HLO.o),HB3.o⟩
    ·
     have HPut:=Zz (HIns.o hv0 hxt)
     rw [dF hxt] at HQ
     clear HNext HSame HIns hv0 hxt
     obtain ⟨xk,xt,xe⟩:=x
     obtain ⟨yk,yt,ye⟩:=t
     have x0:=fun p=>(hcx.bel p).c0
     have x1:=fun p=>(hcx.bel p).c1
     have x2:=fun p=>(hcx.bel p).c2
     have y0:=fun p=>(hcy.bel p).c0
     have y1:=fun p=>(hcy.bel p).c1
     have y2:=fun p=>(hcy.bel p).c2
     dsimp only at x0 x1 x2 y0 y1 y2
     unfold Ref5.termV at HCC
     dsimp only at HCC
     go_upto_region 2 with fail
     refine QT.region_all (by kernel_rfl) (by kernel_rfl) ?_
     iterate 10 (go_big_quiet_step (fail))
     go_big_quiet_step (exact QT.Bel.call _ (HCC.o _))
     iterate 2 (go_big_quiet_step (fail))
     refine wpQuiet_nil ?_
     intro w2 hw'
     obtain ⟨⟨_,hb⟩,rfl⟩:=hw'
     have HW2:Hid (Below w.heap.size w w2∧C3 w2 w.heap.size 0 ⟨yk,yt,ye⟩):=Zz ⟨bel_step HIW.o.1 hb,hcy.below hb⟩
     have hcx:=hcx.below hb
     have hcy:=HW2.o.2
     clear hb x0 x1 x2 y0 y1 y2 HI HIW
     go_wp2
     obtain ⟨x0,x1,x2⟩:=id hcx
     obtain ⟨y0,y1,y2⟩:=id hcy
     simp only [Nat.zero_add] at y1 y2
     have hqq:=HQ.o
     dsimp only at x0 x1 x2 y0 y1 y2 hqq
     go_upto_region 4 with fail
     go_quiet (fail)
     have hcz:=hcy.below (bel_drewN (bR _ _) nq)
     have HB3:=Zz (bel_drewN HW2.o.1 nq)
     clear x0 x1 x2 y0 y1 y2 hcx hcy HW2 hqq
     generalize w2.drewN nq = w3 at *
     go_wp2
     obtain ⟨A1,-,-,htake,hrow1⟩:=Kd.cut_run (P:=Tryz.prog) termK 31 24 Tryz.underlying31 cellsE Clones.zero_term 40 Clones.info_term (some ⟨b,off,none⟩) l.length c 0 i (Nat.zero_le _) hiL hlc ⟨hl47,hcm⟩ hA
     obtain ⟨A2,-,hdrop,-,hrow2⟩:=Kd.cut_run (P:=Tryz.prog) termK 31 24 Tryz.underlying31 cellsE Clones.zero_term 40 Clones.info_term (some ⟨b,off,none⟩) l.length c i l.length hiL (lR _) hlc ⟨hl47,hcm⟩ hA
     have HQ1:=Zz (hrow1 w TT l rfl HROW.o)
     have HQ2:=Zz (hrow2 w TT l rfl HROW.o)
     rw [List.drop_zero] at HQ1
     rw [List.take_length] at HQ2
     obtain ⟨pre,hpre⟩:∃ pre,pre = l.take i:=⟨_,rfl⟩
     obtain ⟨suf,hsuf⟩:∃ suf,suf = l.drop i:=⟨_,rfl⟩
     have hpl:pre.length = i:=by rw [hpre,List.length_take];omega
     have hsl:suf.length = l.length - i:=by rw [hsuf,List.length_drop]
     have hs1:∀ (kh:IntKind) (w:World),(Instr.slice 31 (.slice (some ⟨b,off,none⟩) l.length c) none (some (.int kh (i:Int))) none).run Tryz.prog w = .ok (.slice A1 pre.length c) w:=fun kh w=>by rw [hpl];exact htake kh w rfl
     obtain ⟨c2,hc2⟩:∃ c2,c2 = c - i:=⟨_,rfl⟩
     have hs2:∀ (kl:IntKind) (w:World),(Instr.slice 31 (.slice (some ⟨b,off,none⟩) l.length c) (some (.int kl (i:Int))) none none).run Tryz.prog w = .ok (.slice A2 suf.length c2) w:=fun kl w=>by rw [hsl,hc2];exact hdrop kl w rfl
     rw [Nat.sub_zero,Nat.sub_zero,← hpre,← hpl] at HQ1
     rw [← hsuf,← hsl,← hc2] at HQ2
     rw [← hpre,← hsuf] at HPut
     have hbp:pre.length ≤ 1000000:=by omega
     have hbs2:suf.length ≤ 1000000:=by omega
     clear htake hdrop hrow1 hrow2 hpre hsuf hc2
     clear hpl hsl
     have HZ:=Zz hcz
     have hB:=HB3.o
     have hY:=bR w3.heap.size w3
     obtain ⟨n0,n1,n2⟩:=hcz
     simp only [Nat.zero_add] at n1 n2
     dsimp only at n0 n1 n2
     go_cut [4] (fun v4 wx=>Hid (termK.own 24 wx w3.heap.size TT v4 (pre ++ [⟨yk,yt,ye⟩] ++ suf))∧Hid (Below w.heap.size w wx))
     case first =>
      go_region_held3 (fun w'=>w'.cell? ⟨w.heap.size,0,none⟩ = some (Value.int .i64 yk)∧w'.cell? ⟨w.heap.size,1,none⟩ = some (Value.string (mkS yt))∧w'.cell? ⟨w.heap.size,2,none⟩ = some (Value.string (mkS ye)))
       (exact three (HZ.o.below (by (repeat (first | assumption | exact bR _ _ | refine bel_alloc ?_ _ | refine bel_drew ?_)))))
       (first
        | (refine Kd.own_app_step termK (w0:=w3) w3.heap.size (by rfl) (.tmp 34) (.tmp 37) 31 24 Clones.zero_term 40 (by rfl) Tryz.underlying31 Clones.info_term rfl (by decide) (.slice (some ⟨w3.heap.size,0,none⟩) 0 0) [] pre A1 c TT (by rfl) (by rfl) ?ho (.inr ⟨?hr,Clones.any_term⟩) ?hb ?hs ?hl ?_;go_loud (case hl=>simp;omega);go_loud (case ho=>first | exact own0_1 _ | exact Kd.own_drew (own0_1 _) | exact Kd.own_drew (Kd.own_alloc (own0_1 _) _) | exact Kd.own_drew (own0_2 _ _));go_loud (case hr=>exact Kd.M_below HQ1.o (by (repeat (first | assumption | exact bR _ _ | refine bel_alloc ?_ _ | refine bel_drew ?_))));go_loud (case hb=>repeat (first | assumption | exact bR _ _ | refine bel_alloc ?_ _ | refine bel_drew ?_));go_loud (case hs=>simp;try omega);intro v1 w1 ho1 hb1 hg1 hv1;go_loud (rw [List.nil_append] at ho1);have HO1:=Zz ho1;clear ho1 hv1)
        | (refine Kd.own_app_step termK (w0:=w3) w3.heap.size (by rfl) (.tmp 34) (.tmp 37) 31 24 Clones.zero_term 40 (by rfl) Tryz.underlying31 Clones.info_term rfl (by decide) (.slice (some ⟨w3.heap.size + 1,0,none⟩) 0 0) [] pre A1 c TT (by rfl) (by rfl) ?ho (.inr ⟨?hr,Clones.any_term⟩) ?hb ?hs ?hl ?_;go_loud (case hl=>simp;omega);go_loud (case ho=>first | exact own0_1 _ | exact Kd.own_drew (own0_1 _) | exact Kd.own_drew (Kd.own_alloc (own0_1 _) _) | exact Kd.own_drew (own0_2 _ _));go_loud (case hr=>exact Kd.M_below HQ1.o (by (repeat (first | assumption | exact bR _ _ | refine bel_alloc ?_ _ | refine bel_drew ?_))));go_loud (case hb=>repeat (first | assumption | exact bR _ _ | refine bel_alloc ?_ _ | refine bel_drew ?_));go_loud (case hs=>simp;try omega);intro v1 w1 ho1 hb1 hg1 hv1;go_loud (rw [List.nil_append] at ho1);have HO1:=Zz ho1;clear ho1 hv1)
        | (refine Kd.own_app_step termK (w0:=w3) w3.heap.size (by rfl) (.tmp 38) (.tmp 40) 31 24 Clones.zero_term 40 (by rfl) Tryz.underlying31 Clones.info_term rfl (by decide) v1 pre [⟨yk,yt,ye⟩] _ 1 TT (by rfl) (by rfl) ?ho (.inr ⟨?hr,Clones.any_term⟩) ?hb ?hs ?hl ?_;go_loud (case hl=>simp;omega);go_loud (case ho=>repeat (first | exact HO1.o | refine Kd.own_drew ?_ | refine Kd.own_alloc ?_ _));go_loud (case hr=>first | exact one_row _ ⟨yk,yt,ye⟩ hft | (refine one_grown hft ?_ hg1 ?_;(first | exact C3_new1 _ _ ⟨yk,yt,ye⟩ | exact C3_new2 _ ⟨yk,yt,ye⟩ _);(simp [Value.ownBlock])));go_loud (case hb=>repeat (first | assumption | exact bR _ _ | refine bel_alloc ?_ _ | refine bel_drew ?_));go_loud (case hs=>have:=hb1.size;first | omega | (simp;omega));intro v2 w4 ho2 hb2 hg2 hv2;have HO2:=Zz ho2;clear ho2 hg2 hv2)
        | (refine Kd.own_app_step termK (w0:=w3) w3.heap.size (by rfl) (.tmp 41) (.tmp 44) 31 24 Clones.zero_term 40 (by rfl) Tryz.underlying31 Clones.info_term rfl (by decide) v2 (pre ++ [⟨yk,yt,ye⟩]) suf A2 c2 TT (by rfl) (by rfl) ?ho (.inr ⟨?hr,Clones.any_term⟩) ?hb ?hs ?hl ?_;go_loud (case hl=>simp;omega);go_loud (case ho=>repeat (first | exact HO2.o | refine Kd.own_drew ?_ | refine Kd.own_alloc ?_ _));go_loud (case hr=>exact Kd.M_below HQ2.o (bel_step hB (by (repeat (first | assumption | exact bR _ _ | refine bel_alloc ?_ _ | refine bel_drew ?_)))));go_loud (case hb=>repeat (first | assumption | exact bR _ _ | refine bel_alloc ?_ _ | refine bel_drew ?_));go_loud (case hs=>have:=hb2.size;first | omega | (simp;omega));intro v3 w5 ho3 hb3 hg3 hv3;have HO3:=Zz ho3;clear ho3 hg3 hv3)
        | fail)
      all_goals (go_wp2_with fail;go_meet;exact ⟨HO3,Zz (bel_step hB hb3)⟩)
     case rest =>
      obtain ⟨HO,HB6⟩:=hcut
      obtain ⟨A9,c9,rfl,_,_⟩:=Kd.own_slice HO.o
      have HM9:=Zz (Kd.own_sl (ok':=fun k=>ok k ∨ w.heap.size ≤ k) (StoreW.own_any (ok':=fun _=>False) Clones.any_term HO.o) (fun k hk=>.inr (Nat.le_trans HB3.o.size hk)) (fun k hk=>False.elim hk))
      rw [← HPut.o] at HM9
      rw [← HPut.o]
      clear HO
      go_wp2
      go_ret
      exact ⟨_,_,rfl,HM9.o,HB6.o⟩
  ·
   have hd:decide (i < l.length) = false:=dF hlt
   have HPut:Hid (putL l t = l.take i ++ [t] ++ l.drop i):=Zz (put_ins l t i hiL HI.o.1 (fun h=>absurd h hlt))
   have HIW:=Zz HI.o.2
   clear HI hlt
   obtain ⟨yk,yt,ye⟩:=t
   go_upto_region 2 with fail
   go_quiet (fail)
   go_wp2
   go_upto_region 4 with fail
   go_quiet (fail)
   go_upto_region 6 with fail
   generalize hwy:World.drewN _ _ = w3 at *
   have HB3:Hid (Below w.heap.size w w3):=Zz (by subst hwy;exact bel_drewN (bel_drewN HIW.o.1 _) _)
   have hcz:C3 w3 w.heap.size 0 ⟨yk,yt,ye⟩:=by subst hwy;exact HIW.o.2.moved rfl
   clear hwy HIW
   obtain ⟨A1,-,-,htake,hrow1⟩:=Kd.cut_run (P:=Tryz.prog) termK 31 24 Tryz.underlying31 cellsE Clones.zero_term 40 Clones.info_term (A) l.length c 0 i (Nat.zero_le _) hiL hlc ⟨hl47,hcm⟩ hA
   obtain ⟨A2,-,hdrop,-,hrow2⟩:=Kd.cut_run (P:=Tryz.prog) termK 31 24 Tryz.underlying31 cellsE Clones.zero_term 40 Clones.info_term (A) l.length c i l.length hiL (lR _) hlc ⟨hl47,hcm⟩ hA
   have HQ1:=Zz (hrow1 w TT l rfl HROW.o)
   have HQ2:=Zz (hrow2 w TT l rfl HROW.o)
   rw [List.drop_zero] at HQ1
   rw [List.take_length] at HQ2
   obtain ⟨pre,hpre⟩:∃ pre,pre = l.take i:=⟨_,rfl⟩
   obtain ⟨suf,hsuf⟩:∃ suf,suf = l.drop i:=⟨_,rfl⟩
   have hpl:pre.length = i:=by rw [hpre,List.length_take];omega
   have hsl:suf.length = l.length - i:=by rw [hsuf,List.length_drop]
   have hs1:∀ (kh:IntKind) (w:World),(Instr.slice 31 (.slice (A) l.length c) none (some (.int kh (i:Int))) none).run Tryz.prog w = .ok (.slice A1 pre.length c) w:=fun kh w=>by rw [hpl];exact htake kh w rfl
   obtain ⟨c2,hc2⟩:∃ c2,c2 = c - i:=⟨_,rfl⟩
   have hs2:∀ (kl:IntKind) (w:World),(Instr.slice 31 (.slice (A) l.length c) (some (.int kl (i:Int))) none none).run Tryz.prog w = .ok (.slice A2 suf.length c2) w:=fun kl w=>by rw [hsl,hc2];exact hdrop kl w rfl
   rw [Nat.sub_zero,Nat.sub_zero,← hpre,← hpl] at HQ1
   rw [← hsuf,← hsl,← hc2] at HQ2
   rw [← hpre,← hsuf] at HPut
   have hbp:pre.length ≤ 1000000:=by omega
   have hbs2:suf.length ≤ 1000000:=by omega
   clear htake hdrop hrow1 hrow2 hpre hsuf hc2
   clear hpl hsl
   have HZ:=Zz hcz
   have hB:=HB3.o
   have hY:=bR w3.heap.size w3
   obtain ⟨n0,n1,n2⟩:=hcz
   simp only [Nat.zero_add] at n1 n2
   dsimp only at n0 n1 n2
   go_cut [4] (fun v4 wx=>Hid (termK.own 24 wx w3.heap.size TT v4 (pre ++ [⟨yk,yt,ye⟩] ++ suf))∧Hid (Below w.heap.size w wx))
   case first =>
    go_region_held3 (fun w'=>w'.cell? ⟨w.heap.size,0,none⟩ = some (Value.int .i64 yk)∧w'.cell? ⟨w.heap.size,1,none⟩ = some (Value.string (mkS yt))∧w'.cell? ⟨w.heap.size,2,none⟩ = some (Value.string (mkS ye)))
     (exact three (HZ.o.below (by (repeat (first | assumption | exact bR _ _ | refine bel_alloc ?_ _ | refine bel_drew ?_)))))
     (first
      | (refine Kd.own_app_step termK (w0:=w3) w3.heap.size (by rfl) (.tmp 34) (.tmp 37) 31 24 Clones.zero_term 40 (by rfl) Tryz.underlying31 Clones.info_term rfl (by decide) (.slice (some ⟨w3.heap.size,0,none⟩) 0 0) [] pre A1 c TT (by rfl) (by rfl) ?ho (.inr ⟨?hr,Clones.any_term⟩) ?hb ?hs ?hl ?_;go_loud (case hl=>simp;omega);go_loud (case ho=>first | exact own0_1 _ | exact Kd.own_drew (own0_1 _) | exact Kd.own_drew (Kd.own_alloc (own0_1 _) _) | exact Kd.own_drew (own0_2 _ _));go_loud (case hr=>exact Kd.M_below HQ1.o (by (repeat (first | assumption | exact bR _ _ | refine bel_alloc ?_ _ | refine bel_drew ?_))));go_loud (case hb=>repeat (first | assumption | exact bR _ _ | refine bel_alloc ?_ _ | refine bel_drew ?_));go_loud (case hs=>simp;try omega);intro v1 w1 ho1 hb1 hg1 hv1;go_loud (rw [List.nil_append] at ho1);have HO1:=Zz ho1;clear ho1 hv1)
      | (refine Kd.own_app_step termK (w0:=w3) w3.heap.size (by rfl) (.tmp 34) (.tmp 37) 31 24 Clones.zero_term 40 (by rfl) Tryz.underlying31 Clones.info_term rfl (by decide) (.slice (some ⟨w3.heap.size + 1,0,none⟩) 0 0) [] pre A1 c TT (by rfl) (by rfl) ?ho (.inr ⟨?hr,Clones.any_term⟩) ?hb ?hs ?hl ?_;go_loud (case hl=>simp;omega);go_loud (case ho=>first | exact own0_1 _ | exact Kd.own_drew (own0_1 _) | exact Kd.own_drew (Kd.own_alloc (own0_1 _) _) | exact Kd.own_drew (own0_2 _ _));go_loud (case hr=>exact Kd.M_below HQ1.o (by (repeat (first | assumption | exact bR _ _ | refine bel_alloc ?_ _ | refine bel_drew ?_))));go_loud (case hb=>repeat (first | assumption | exact bR _ _ | refine bel_alloc ?_ _ | refine bel_drew ?_));go_loud (case hs=>simp;try omega);intro v1 w1 ho1 hb1 hg1 hv1;go_loud (rw [List.nil_append] at ho1);have HO1:=Zz ho1;clear ho1 hv1)
      | (refine Kd.own_app_step termK (w0:=w3) w3.heap.size (by rfl) (.tmp 38) (.tmp 40) 31 24 Clones.zero_term 40 (by rfl) Tryz.underlying31 Clones.info_term rfl (by decide) v1 pre [⟨yk,yt,ye⟩] _ 1 TT (by rfl) (by rfl) ?ho (.inr ⟨?hr,Clones.any_term⟩) ?hb ?hs ?hl ?_;go_loud (case hl=>simp;omega);go_loud (case ho=>repeat (first | exact HO1.o | refine Kd.own_drew ?_ | refine Kd.own_alloc ?_ _));go_loud (case hr=>first | exact one_row _ ⟨yk,yt,ye⟩ hft | (refine one_grown hft ?_ hg1 ?_;(first | exact C3_new1 _ _ ⟨yk,yt,ye⟩ | exact C3_new2 _ ⟨yk,yt,ye⟩ _);(simp [Value.ownBlock])));go_loud (case hb=>repeat (first | assumption | exact bR _ _ | refine bel_alloc ?_ _ | refine bel_drew ?_));go_loud (case hs=>have:=hb1.size;first | omega | (simp;omega));intro v2 w4 ho2 hb2 hg2 hv2;have HO2:=Zz ho2;clear ho2 hg2 hv2)
      | (refine Kd.own_app_step termK (w0:=w3) w3.heap.size (by rfl) (.tmp 41) (.tmp 44) 31 24 Clones.zero_term 40 (by rfl) Tryz.underlying31 Clones.info_term rfl (by decide) v2 (pre ++ [⟨yk,yt,ye⟩]) suf A2 c2 TT (by rfl) (by rfl) ?ho (.inr ⟨?hr,Clones.any_term⟩) ?hb ?hs ?hl ?_;go_loud (case hl=>simp;omega);go_loud (case ho=>repeat (first | exact HO2.o | refine Kd.own_drew ?_ | refine Kd.own_alloc ?_ _));go_loud (case hr=>exact Kd.M_below HQ2.o (bel_step hB (by (repeat (first | assumption | exact bR _ _ | refine bel_alloc ?_ _ | refine bel_drew ?_)))));go_loud (case hb=>repeat (first | assumption | exact bR _ _ | refine bel_alloc ?_ _ | refine bel_drew ?_));go_loud (case hs=>have:=hb2.size;first | omega | (simp;omega));intro v3 w5 ho3 hb3 hg3 hv3;have HO3:=Zz ho3;clear ho3 hg3 hv3)
      | fail)
    all_goals (go_wp2_with fail;go_meet;exact ⟨HO3,Zz (bel_step hB hb3)⟩)
   case rest =>
    obtain ⟨HO,HB6⟩:=hcut
    obtain ⟨A9,c9,rfl,_,_⟩:=Kd.own_slice HO.o
    have HM9:=Zz (Kd.own_sl (ok':=fun k=>ok k ∨ w.heap.size ≤ k) (StoreW.own_any (ok':=fun _=>False) Clones.any_term HO.o) (fun k hk=>.inr (Nat.le_trans HB3.o.size hk)) (fun k hk=>False.elim hk))
    rw [← HPut.o] at HM9
    rw [← HPut.o]
    clear HO
    go_wp2
    go_ret
    exact ⟨_,_,rfl,HM9.o,HB6.o⟩
end PutE
namespace RefOf
open Go.RowKit Go.Lib B Rd TermPure LinesPure Tri SortP OrdG TermW Cmp StoreW PutE
structure OS (w wr:World) (v0 v1 v2 v3:Value):Prop where
 bel:Below w.heap.size w wr
 lt:w.heap.size < wr.heap.size
 c0:wr.cell? ⟨w.heap.size,0,none⟩ = some v0
 c1:wr.cell? ⟨w.heap.size,1,none⟩ = some v1
 c2:wr.cell? ⟨w.heap.size,2,none⟩ = some v2
 c3:wr.cell? ⟨w.heap.size,3,none⟩ = some v3
 free:∀ j,wr.frozen? ⟨w.heap.size,j,none⟩ = false
theorem OS.below {w wr w1:World} {v0 v1 v2 v3:Value} (h:OS w wr v0 v1 v2 v3) (hb:Below (w.heap.size + 1) wr w1):OS w w1 v0 v1 v2 v3:=by
 have hc:∀ o,w1.cell? ⟨w.heap.size,o,none⟩ = wr.cell? ⟨w.heap.size,o,none⟩:=fun o=>hb.cell (p:=⟨w.heap.size,o,none⟩) (Nat.lt_succ_self _)
 exact ⟨h.bel.trans (hb.mono (Nat.le_succ _)),Nat.lt_of_lt_of_le h.lt hb.size,(hc 0).trans h.c0,(hc 1).trans h.c1,(hc 2).trans h.c2,(hc 3).trans h.c3,fun j=>(hb.frozen (p:=⟨w.heap.size,j,none⟩) (Nat.lt_succ_self _)).trans (h.free j)⟩
theorem OS.set1 {w wr:World} {v0 v1 v2 v3:Value} (h:OS w wr v0 v1 v2 v3) (v:Value):OS w (wr.setCell ⟨w.heap.size,1,none⟩ v) v0 v v2 v3:=
 ⟨bel_set h.bel (lR _) _,by simpa using h.lt,(World.cell?_setCell_other _ _ _ _ (by simp)).trans h.c0,World.cell?_setCell_same _ _ _ h.c1,(World.cell?_setCell_other _ _ _ _ (by simp)).trans h.c2,(World.cell?_setCell_other _ _ _ _ (by simp)).trans h.c3,fun j=>by rw [World.frozen?_setCell];exact h.free j⟩
theorem OS.set2 {w wr:World} {v0 v1 v2 v3:Value} (h:OS w wr v0 v1 v2 v3) (v:Value):OS w (wr.setCell ⟨w.heap.size,2,none⟩ v) v0 v1 v v3:=
 ⟨bel_set h.bel (lR _) _,by simpa using h.lt,(World.cell?_setCell_other _ _ _ _ (by simp)).trans h.c0,(World.cell?_setCell_other _ _ _ _ (by simp)).trans h.c1,World.cell?_setCell_same _ _ _ h.c2,(World.cell?_setCell_other _ _ _ _ (by simp)).trans h.c3,fun j=>by rw [World.frozen?_setCell];exact h.free j⟩
theorem OS.set3 {w wr:World} {v0 v1 v2 v3:Value} (h:OS w wr v0 v1 v2 v3) (v:Value):OS w (wr.setCell ⟨w.heap.size,3,none⟩ v) v0 v1 v2 v:=
 ⟨bel_set h.bel (lR _) _,by simpa using h.lt,(World.cell?_setCell_other _ _ _ _ (by simp)).trans h.c0,(World.cell?_setCell_other _ _ _ _ (by simp)).trans h.c1,(World.cell?_setCell_other _ _ _ _ (by simp)).trans h.c2,World.cell?_setCell_same _ _ _ h.c3,fun j=>by rw [World.frozen?_setCell];exact h.free j⟩
theorem OS.new (w:World) (v0 v1 v2 v3:Value):OS w (w.alloc (.cells #[v0,v1,v2,v3] 53)) v0 v1 v2 v3:=by
 have hc:∀ {o:Nat} {u:Value},#[v0,v1,v2,v3][o]? = some u → (w.alloc (.cells #[v0,v1,v2,v3] 53)).cell? ⟨w.heap.size,o,none⟩ = some u:=fun {o u} hu=>by
  rw [World.cell?,Kd.heap_new]
  exact hu
 refine ⟨bel_alloc (bR _ _) _,by simp,hc rfl,hc rfl,hc rfl,hc rfl,fun j=>?_⟩
 unfold World.frozen?
 dsimp only
 rw [Kd.heap_new]
 try rfl
def NB (w:World) (k:Nat):Prop:=k ≠ w.heap.size
theorem nb_set {α:Type} {d:Kd α} {w wr:World} {o:Nat} {v:Value} {x:α} {cs:List Value} (h:d.M wr (NB w) x cs):d.M (wr.setCell ⟨w.heap.size,o,none⟩ v) (NB w) x cs:=
 d.move (fun k hk _=>Below.heap_setCell _ _ _ _ hk) h
theorem nb_below {α:Type} {d:Kd α} {w wr w1:World} {x:α} {cs:List Value} (h:d.M wr (NB w) x cs) (hb:Below wr.heap.size wr w1):d.M w1 (NB w) x cs:=
 d.move (fun k _ hlt=>hb.block k hlt) h
theorem nb_or {α:Type} {d:Kd α} {w wr W:World} {x:α} {cs:List Value} (hw:w.heap.size < wr.heap.size) (h:d.M W (fun k=>NB w k ∨ wr.heap.size ≤ k) x cs):d.M W (NB w) x cs:=
 d.mono (fun k hk _=>hk.elim id (fun h2 (e:k = w.heap.size)=>by omega)) h
def OB (w:World) (B k:Nat):Prop:=NB w k∧k < B
theorem ob_set {α:Type} {d:Kd α} {w wr:World} {B o:Nat} {v:Value} {x:α} {cs:List Value} (h:d.M wr (OB w B) x cs):d.M (wr.setCell ⟨w.heap.size,o,none⟩ v) (OB w B) x cs:=
 d.move (fun k hk _=>Below.heap_setCell _ _ _ _ hk.1) h
theorem ob_below {α:Type} {d:Kd α} {w wr w1:World} {B:Nat} {x:α} {cs:List Value} (h:d.M wr (OB w B) x cs) (hb:Below B wr w1):d.M w1 (OB w B) x cs:=
 d.move (fun k hk _=>hb.block k hk.2) h
theorem ob_mono {α:Type} {d:Kd α} {w wr:World} {B B':Nat} {x:α} {cs:List Value} (h:d.M wr (OB w B) x cs) (hB:B ≤ B'):d.M wr (OB w B') x cs:=
 d.mono (fun k hk _=>⟨hk.1,Nat.lt_of_lt_of_le hk.2 hB⟩) h
theorem ob_of {α:Type} {d:Kd α} {w wr:World} {x:α} {cs:List Value} (h:d.M wr (NB w) x cs):d.M wr (OB w wr.heap.size) x cs:=
 d.mono (fun k hk hlt=>⟨hk,hlt⟩) h
theorem ob_own {α:Type} {d:Kd α} {e:TypeId} {w wr:World} {B:Nat} {v:Value} {xs:List α} (hany:∀ (w:World) (ok ok':Nat → Prop) (x:α) (cs:List Value),d.M w ok x cs → d.M w ok' x cs) (h:d.own e wr B (fun _=>False) v xs) (hB:w.heap.size < B):d.sl.M wr (OB w wr.heap.size) xs [v]:=
 ob_of (Kd.own_sl (ok':=NB w) h (fun k hk (e:k = w.heap.size)=>by omega) (fun k hk=>False.elim hk))
theorem one_str (W:World) (S1:List UInt8) (h:S1.length ≤ 1000):strK.sl.M (W.alloc (.cells #[.string (mkS S1)] 9)) (fun _=>True) [mkS S1] [.slice (some ⟨W.heap.size,0,none⟩) 1 1]:=by
 refine ⟨some ⟨W.heap.size,0,none⟩,1,rfl,lR _,⟨by simp,by unfold maxLen;omega⟩,fun h=>(by cases h),fun i x hx=>?_⟩
 match i with
 | 0 =>
  simp at hx
  subst hx
  refine ⟨_,[.string (mkS S1)],rfl,trivial,⟨rfl,by show (mkS S1).size ≤ _;rw [mkS_size];omega⟩,fun j u hu=>?_⟩
  rw [add_plain,World.cell?,Kd.heap_new]
  match j with
  | 0=>simp at hu;subst hu;rfl
  | j + 1=>simp at hu
 | i + 1=>simp at hx
theorem one_ids (W:World) (x:Ids) (h:FitsI x):idsK.sl.M (W.alloc (.cells #[.int .i64 (x.a:Nat),.int .i64 (x.b:Nat),.int .i64 (x.c:Nat)] 40)) (fun _=>True) [x] [.slice (some ⟨W.heap.size,0,none⟩) 1 1]:=by
 refine ⟨some ⟨W.heap.size,0,none⟩,1,rfl,lR _,⟨by simp,by unfold maxLen;omega⟩,fun h=>(by cases h),fun i y hy=>?_⟩
 match i with
 | 0 =>
  simp at hy
  subst hy
  refine ⟨_,idsL x,rfl,trivial,⟨rfl,h⟩,fun j u hu=>?_⟩
  rw [add_plain,World.cell?,Kd.heap_new]
  have hj:j < 3:=(List.getElem?_eq_some_iff.1 hu).1
  match j,hj with
  | 0,_=>cases hu;rfl
  | 1,_=>cases hu;rfl
  | 2,_=>cases hu;rfl
 | i + 1=>simp at hy
def ET (l:List Triple) (i:Nat):List Term:=(inTriples (l.take i)).foldl putL []
theorem ET_zero (l:List Triple):ET l 0 = []:=by simp [ET,inTriples]
theorem ET_all (l:List Triple):ET l l.length = termsT l:=by
 unfold ET termsT
 rw [List.take_length]
 try rfl
theorem ET_snoc (l:List Triple) (i:Nat) (h:i < l.length):ET l (i + 1) = putL (putL (putL (ET l i) l[i].s) l[i].p) l[i].o:=by
 unfold ET
 rw [← Made.inT_snoc l i h,List.foldl_append]
 try rfl
theorem putL_mem (l:List Term) (t x:Term):x ∈ putL l t ↔ x = t ∨ x ∈ l:=putE_mem _ l t x
theorem putL_len:∀ (l:List Term) (t:Term),(putL l t).length ≤ l.length + 1
 | [],t=>by simp [putL,putE]
 | y :: l,t=>by
  have ih:=putL_len l t
  unfold putL at ih ⊢
  rw [putE]
  split
  ·
   simp only [List.length_cons];omega
  ·
   split <;> simp
theorem ET_is {l:List Triple} (h:Valid l):∀ i,i ≤ l.length → ∀ x ∈ ET l i,is x = true
 | 0,_,x,hx=>by rw [ET_zero] at hx;cases hx
 | i + 1,hi,x,hx=>by
  rw [ET_snoc l i hi,putL_mem,putL_mem,putL_mem] at hx
  have ht:=ParseP.isT_parts (h l[i] (List.getElem_mem _))
  rcases hx with rfl | rfl | rfl | hx
  ·
   exact ht.2.2
  ·
   exact ht.2.1
  ·
   exact ht.1
  ·
   exact ET_is h i (by omega) x hx
theorem ET_len (l:List Triple):∀ i,i ≤ l.length → (ET l i).length ≤ 3 * i
 | 0,_=>by rw [ET_zero];simp
 | i + 1,hi=>by
  rw [ET_snoc l i hi]
  have h1:=ET_len l i (by omega)
  have h2:=putL_len (ET l i) l[i].s
  have h3:=putL_len (putL (ET l i) l[i].s) l[i].p
  have h4:=putL_len (putL (putL (ET l i) l[i].s) l[i].p) l[i].o
  omega
theorem small_is {x:Term} (h:is x = true):SmallM x:=by
 have:=ParseP.is_small h
 unfold SmallM
 omega
theorem fits_is {x:Term} (h:is x = true):FitsW x:=by
 have:=ParseP.is_small h
 unfold FitsW
 omega
end RefOf
namespace RefOf
open Go.RowKit Go.Lib B Rd TermPure LinesPure Tri SortP OrdG TermW Cmp StoreW Search
theorem idxOf_le:∀ (l:List Term) (t:Term) (i:Nat) (h:i < l.length),l[i] = t → l.idxOf t ≤ i
 | [],_,_,h,_=>by simp at h
 | x :: l,t,0,_,he=>by
  rw [List.getElem_cons_zero] at he
  rw [List.idxOf_cons,he]
  simp
 | x :: l,t,i + 1,h,he=>by
  have ih:=idxOf_le l t i (by simpa using h) (by rw [List.getElem_cons_succ] at he;exact he)
  rw [List.idxOf_cons]
  cases (x == t)
  ·
   simp only [cond_false];omega
  ·
   simp only [cond_true];omega
theorem idOf_first {l:List Term} {t:Term} {i:Nat} (h:i < l.length) (he:l[i] = t) (hne:∀ j (hj:j < l.length),j < i → l[j] ≠ t):idOf l t = i + 1:=by
 have hm:t ∈ l:=by rw [← he];exact List.getElem_mem h
 unfold idOf
 rw [if_pos hm]
 have h1:=List.idxOf_lt_length_of_mem hm
 have h2:l[l.idxOf t] = t:=List.getElem_idxOf h1
 have h3:l.idxOf t ≤ i:=idxOf_le l t i h he
 have h5:¬ l.idxOf t < i:=fun h4=>hne _ h1 h4 h2
 omega
theorem idOf_none {l:List Term} {t:Term} (hne:∀ j (hj:j < l.length),l[j] ≠ t):idOf l t = 0:=by
 unfold idOf
 rw [if_neg]
 intro hm
 obtain ⟨j,hj,he⟩:=List.getElem_of_mem hm
 exact hne j hj he
theorem id11_calls (E:List Term) (t:Term) (g:Nat) (A:Option Addr) (c:Nat) (w:World) (hg:w.cell? ⟨g,1,none⟩ = some (.slice A E.length c)) (HL:termK.sl.M w (fun k=>k < w.heap.size) E [.slice A E.length c]) (hb:E.length ≤ 1000000) :
  Calls Tryz.prog 49 #[.pointer (some ⟨g,0,none⟩),Ref5.termV t] w fun e w'=>e = .returned (.int .i64 (idOf E t:Nat))∧Below w.heap.size w w':=by
 have hb0:Below w.heap.size w (w.alloc (.cells (termL t).toArray 24)):=bel_alloc (bR _ _) _
 have hcy:=C3.new w t
 obtain ⟨w0,hw0⟩:∃ w0,w0 = w.alloc (.cells (termL t).toArray 24):=⟨_,rfl⟩
 rw [← hw0] at hb0 hcy
 have HWX:Hid (w.alloc (.cells #[.int .i64 t.kind,.string (mkS t.text),.string (mkS t.extra)] 24) = w0):=Zz hw0.symm
 have HB0:=Zz hb0
 have HG:=Zz (fun W (h:Below w.heap.size w W)=>(h.cell (p:=⟨g,1,none⟩) (cell_lt hg)).trans hg)
 have HRow:=Zz (fun hp=>term_cells HL hp)
 have HCy:=Zz hcy
 have HF:=Zz (fun i h he hne=>idOf_first (l:=E) (t:=t) (i:=i) h he hne)
 have HN:=Zz (fun hne=>idOf_none (l:=E) (t:=t) hne)
 obtain ⟨n,hn⟩:∃ n,n = idOf E t:=⟨_,rfl⟩
 rw [← hn] at HF HN
 rw [← hn]
 clear hn hb0 hcy hw0 hg HL
 unfold Ref5.termV
 go_enter Tryz.func49,Tryz.ntmps49
 go_upto_region 1 with fail
 rw [HWX.o]
 go_wp2
 go_loopw [5] (fun vi wr=>∃ i:Nat,vi = .int .i64 i∧i ≤ E.length∧Hid ((∀ j (hj:j < E.length),j < i → E[j] ≠ t)∧Below w0.heap.size w0 wr)) (fun vi _=>E.length - (intOf vi).toNat)
 case atStart=>exact ⟨0,rfl,by omega,Zz ⟨fun j hj h=>by omega,bR _ _⟩⟩
 case round =>
  obtain ⟨i,rfl,hi,HI⟩:=hrel
  have HBw:=Zz (bel_step HB0.o HI.o.2)
  have k1:=HG.o wr HBw.o
  have HBd:=Zz (fun q=>bel_drewN HBw.o q)
  by_cases hlt:i < E.length
  ·
   have hd:decide (i < E.length) = true:=dT hlt
   have ik:(i:Int) < (E.length:Int):=by omega
   obtain ⟨b,off,rfl,_,hbs,hcells⟩:=HRow.o (by omega)
   have hcx:=(hcells i hlt).below HBw.o
   have hcy:=HCy.o.below HI.o.2
   obtain ⟨x,hx⟩:∃ x,x = E[i]:=⟨_,rfl⟩
   rw [← hx] at hcx
   have HQ:=Zz (fun W=>TriEq.run_eq_term x t W)
   have HOk:Hid (x = t → n = i + 1):=Zz (fun h=>HF.o i hlt (by rw [← hx];exact h) HI.o.1)
   have HNo:Hid (x ≠ t → ∀ j (hj:j < E.length),j < i + 1 → E[j] ≠ t):=Zz (fun h j hj hji=>by
    by_cases e:j = i
    ·
     subst e;rw [← hx];exact h
    ·
     exact HI.o.1 j hj (by omega))
   have HIb:=Zz (fun q=>bel_drewN HI.o.2 q)
   clear hcells hx HI
   by_cases hxt:x = t
   ·
    rw [dT hxt] at HQ
    have HV:=Zz (HOk.o hxt)
    clear hxt HOk HNo
    obtain ⟨xk,xt,xe⟩:=x
    obtain ⟨yk,yt,ye⟩:=t
    obtain ⟨x0,x1,x2⟩:=hcx
    obtain ⟨y0,y1,y2⟩:=hcy
    simp only [Nat.zero_add] at y1 y2
    have hqq:=HQ.o
    dsimp only at x0 x1 x2 y0 y1 y2 hqq
    go_upto_region 4 with fail
    go_quiet (fail)
    go_wp2
    go_ret
    exact ⟨by rw [HV.o];first | rfl | (simp),HBd.o _⟩
   ·
    rw [dF hxt] at HQ
    have HV:=Zz (HNo.o hxt)
    clear hxt HOk HNo
    obtain ⟨xk,xt,xe⟩:=x
    obtain ⟨yk,yt,ye⟩:=t
    obtain ⟨x0,x1,x2⟩:=hcx
    obtain ⟨y0,y1,y2⟩:=hcy
    simp only [Nat.zero_add] at y1 y2
    have hqq:=HQ.o
    dsimp only at x0 x1 x2 y0 y1 y2 hqq
    go_upto_region 4 with fail
    go_quiet (fail)
    go_wp2
    go_roundw
    case rel=>exact ⟨i + 1,by go_num,by omega,Zz ⟨HV.o,HIb.o _⟩⟩
    case measure=>simp [intOf];omega
  ·
   have hd:decide (i < E.length) = false:=dF hlt
   have HV:Hid (n = 0):=Zz (HN.o (fun j hj=>HI.o.1 j hj (by omega)))
   clear HI
   go_wp2
   go_ret
   exact ⟨by rw [HV.o];rfl,HBw.o⟩
end RefOf
end Go.Proofs.YtnplommdgfgboaaGreatDoor
