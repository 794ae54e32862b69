/-
  Texts of the claim, one behind the other: StoreM, Known11, Long11, RefPrint, SPrint, SPrint2, Known, Put, RefSort, Same, FrontP, PackP, CrcPure, BoxPure, StoreP, FrontW, FrontB, IdsW.
-/
import Derived.Test.YtnplommdgfgboaaGreatDoorK6
import Derived.Lib.ItoaNum
set_option linter.unusedVariables false
set_option linter.unusedSimpArgs false
set_option maxHeartbeats 25600000
set_option maxRecDepth 100000
namespace Go.Proofs.YtnplommdgfgboaaGreatDoor
namespace StoreM
open Go.RowKit Go.Lib B Rd TermPure LinesPure Tri SortP OrdG TermW Print Cmp StoreW Clones Env ParseP Parse ParseOk
open Go.Proofs.YtnplommdgfgboaaGreatDoor.Clones (TT)
theorem load_good (s:List UInt8) (hs:s.length ≤ 140737488355328) (w:World) (he:Env w) (h0:(parse s).2.2 = 0) :
  Calls Tryz.prog 15 #[.string (mkS s)] w fun e w'=>(∃ g,e = .returned (.tuple #[.pointer (some ⟨g,0,none⟩),.int .i64 (parse s).2.1,.int .i64 0])∧StoreAt w' (fun k=>w.heap.size ≤ k) g (parse s).1)∧Below w.heap.size w w':=by
 obtain ⟨hv,hr,hl⟩:=parse_good h0
 have HP:=Zz (parse_calls s hs w he)
 have HMd:=Zz (fun A c w1 HL=>Made.made_calls (parse s).1 hv hr hl A c w1 (fun k=>w.heap.size ≤ k) HL)
 generalize parse s = r at *
 obtain ⟨T,n,er⟩:=r
 dsimp only at h0
 subst h0
 clear hv hr hl he
 dsimp only at *
 go_enter Tryz.func15,Tryz.ntmps15
 go_wp2_with fail
 refine HP.o.mono ?_
 rintro e w1 ⟨A1,c1,rfl,hM1,hb1⟩
 have HB1:=Zz hb1
 dsimp only at hM1
 have HMd1:=Zz (HMd.o A1 c1 w1 (triK.sl.mono (fun k hk _=>hk.1) hM1))
 clear hM1 hb1 HP HMd
 dsimp only
 go_wp2_with fail
 refine HMd1.o.mono ?_
 rintro e w2 ⟨⟨g,rfl,hS⟩,hb2⟩
 have HS:=Zz (hS.mono (ok':=fun k=>w.heap.size ≤ k) (fun k hk _=>hk.elim id (fun h=>Nat.le_trans HB1.o.size h)))
 have HB2:=Zz (bel_step HB1.o hb2)
 clear hS hb2 HMd1
 go_wp2
 go_ret3
 exact ⟨⟨g,rfl,HS.o⟩,HB2.o⟩
theorem triples_calls (T:List Triple) (hT:T.length ≤ 100) (g:Nat) (w:World) (ok:Nat → Prop) (h:StoreAt w ok g T) :
  Calls Tryz.prog 34 #[.pointer (some ⟨g,0,none⟩)] w fun e w'=>(∃ v,e = .returned v∧triK.own 36 w' w.heap.size TT v T)∧Below w.heap.size w w':=by
 obtain ⟨_,⟨A,c,hc,hM⟩,_⟩:=h
 have HC:=Zz (SortW.clone_calls T A c w (triK.sl.mono (fun k _ _=>trivial) hM) (by omega))
 clear hM
 go_enter Tryz.func34,Tryz.ntmps34
 go_wp2_with fail
 refine HC.o.mono ?_
 rintro e w1 ⟨⟨v,rfl,ho⟩,hb⟩
 have HO:=Zz ho
 have HB:=Zz hb
 clear ho hb HC hc
 go_wp2
 go_ret
 exact ⟨⟨v,rfl,HO.o⟩,HB.o⟩
theorem terms_calls (T:List Triple) (hT:(termsT T).length ≤ 300) (g:Nat) (w:World) (ok:Nat → Prop) (h:StoreAt w ok g T) :
  Calls Tryz.prog 16 #[.pointer (some ⟨g,0,none⟩)] w fun e w'=>(∃ v,e = .returned v∧termK.own 24 w' w.heap.size TT v (termsT T))∧Below w.heap.size w w':=by
 obtain ⟨_,_,⟨A,c,hc,hM⟩,_⟩:=h
 have HC:=Zz (clone_term_calls (termsT T) A c w (termK.sl.mono (fun k _ _=>trivial) hM) (by omega))
 generalize termsT T = R at *
 clear hM
 go_enter Tryz.func16,Tryz.ntmps16
 go_wp2_with fail
 refine HC.o.mono ?_
 rintro e w1 ⟨⟨v,rfl,ho⟩,hb⟩
 have HO:=Zz ho
 have HB:=Zz hb
 clear ho hb HC hc
 go_wp2
 go_ret
 exact ⟨⟨v,rfl,HO.o⟩,HB.o⟩
theorem len_calls (T:List Triple) (hT:T.length ≤ 100) (g:Nat) (w:World) (ok:Nat → Prop) (h:StoreAt w ok g T) :
  Calls Tryz.prog 24 #[.pointer (some ⟨g,0,none⟩)] w fun e w'=>e = .returned (.int .i64 (T.length:Nat))∧Below w.heap.size w w':=by
 have HC:=Zz (triples_calls T hT g w ok h)
 clear h
 go_enter Tryz.func24,Tryz.ntmps24
 go_wp2_with fail
 refine HC.o.mono ?_
 rintro e w1 ⟨⟨v,rfl,ho⟩,hb⟩
 obtain ⟨A1,c1,rfl,_,_⟩:=Kd.own_slice ho
 have HB:=Zz hb
 clear ho hb HC
 go_wp2
 go_ret
 exact ⟨rfl,HB.o⟩
theorem export_calls (T:List Triple) (hv:Valid T) (hT:T.length ≤ 100) (g:Nat) (w:World) (ok:Nat → Prop) (h:StoreAt w ok g T) :
  Calls Tryz.prog 29 #[.pointer (some ⟨g,0,none⟩)] w fun e w'=>e = .returned (.string (mkS (T.flatMap lineN)))∧Below w.heap.size w w':=by
 have HC:=Zz (triples_calls T hT g w ok h)
 have hsm:∀ t ∈ T,SmallT t:=fun t ht=>(valid_small (hv t ht)).1
 have hfl:=flat_valid hv hT
 have HPr:=Zz (fun A c w1 HL=>print_calls T A c w1 HL hsm (by omega))
 clear h hv hsm hfl
 go_enter Tryz.func29,Tryz.ntmps29
 go_wp2_with fail
 refine HC.o.mono ?_
 rintro e w1 ⟨⟨v,rfl,ho⟩,hb⟩
 have HB:=Zz hb
 obtain ⟨A1,c1,rfl,_,_⟩:=Kd.own_slice ho
 have HP1:=Zz (HPr.o A1 c1 w1 (Kd.M_bound (Kd.own_sl (ok:=fun _=>True) ho (fun k hk=>trivial) (fun k hk=>trivial))))
 clear ho hb HC HPr
 go_wp2_with fail
 refine HP1.o.mono ?_
 rintro e w2 ⟨rfl,hb⟩
 have HB2:=Zz (bel_step HB.o hb)
 clear hb HP1
 go_wp2
 go_ret
 exact ⟨rfl,HB2.o⟩
end StoreM
namespace Known11
open Go.RowKit Go.Lib B Rd TermPure LinesPure Tri SortP OrdG Env ParseP StoreW StoreM
def T1:Triple:=⟨⟨1,[97],[]⟩,⟨1,[98],[]⟩,⟨1,[99],[]⟩⟩
theorem parse0:parse [] = ([],0,0):=by decide +kernel
theorem parse1:parse [60,97,62,32,60,98,62,32,60,99,62,32,46] = ([T1],1,0):=by decide +kernel
theorem print1:[T1].flatMap Print.lineN = [60,97,62,32,60,98,62,32,60,99,62,32,46,10]:=by decide +kernel
theorem valid1:Valid [T1]:=by
 intro t ht
 simp at ht
 subst ht
 decide +kernel
theorem known_calls (w:World) (he:Env w):Calls Tryz.prog 19 #[] w fun e w'=>e = .returned (.bool true)∧Below w.heap.size w w':=by
 have HA:=Zz (load_good [] (by decide) w he (by rw [parse0]))
 rw [parse0] at HA
 have HB:=Zz (fun w he=>load_good [60,97,62,32,60,98,62,32,60,99,62,32,46] (by decide) w he (by rw [parse1]))
 simp only [parse1] at HB
 rw [show mkS [] = ⟨#[]⟩ from rfl] at HA
 rw [show mkS [60,97,62,32,60,98,62,32,60,99,62,32,46] = ⟨#[60,97,62,32,60,98,62,32,60,99,62,32,46]⟩ from rfl] at HB
 have HE:=Zz he
 clear he
 go_enter Tryz.func19,Tryz.ntmps19
 go_wp2_with fail
 refine HA.o.mono ?_
 rintro e w1 ⟨⟨g1,rfl,hS1⟩,hb⟩
 have HB1:=Zz hb
 have HS1:=Zz hS1
 have HBw:=Zz (HB.o w1 (HE.o.below hb))
 clear hb hS1 HA HB
 dsimp only
 go_wp2_with fail
 refine HBw.o.mono ?_
 rintro e w2 ⟨⟨g2,rfl,hS2⟩,hb⟩
 have HB2:=Zz (bel_step HB1.o hb)
 have HS2:=Zz hS2
 have HL1:=Zz (len_calls [] (by decide) g1 w2 _ (HS1.o.below hb))
 clear hb hS2 HBw
 dsimp only
 go_wp2_with fail
 refine HL1.o.mono ?_
 rintro e w3 ⟨rfl,hb⟩
 have HB3:=Zz (bel_step HB2.o hb)
 have HS3:=Zz (HS2.o.below hb)
 have HL2:=Zz (len_calls [T1] (by decide) g2 w3 _ HS3.o)
 clear hb HL1 HS2
 go_wp2_with fail
 refine HL2.o.mono ?_
 rintro e w4 ⟨rfl,hb⟩
 have HB4:=Zz (bel_step HB3.o hb)
 have HS4:=Zz (HS3.o.below hb)
 have HX:=Zz (export_calls [T1] valid1 (by decide) g2 w4 _ HS4.o)
 rw [print1] at HX
 clear hb HL2 HS3
 have m1:=mkS_toList [60,97,62,32,60,98,62,32,60,99,62,32,46,10]
 have m2:(⟨#[60,97,62,32,60,98,62,32,60,99,62,32,46,10]⟩:ByteArray).toList = [60,97,62,32,60,98,62,32,60,99,62,32,46,10]:=mkS_toList [60,97,62,32,60,98,62,32,60,99,62,32,46,10]
 go_wp2_with fail
 refine HX.o.mono ?_
 rintro e w5 ⟨rfl,hb⟩
 have HB5:=Zz (bel_step HB4.o hb)
 clear hb HX
 go_wp2
 go_ret
 exact ⟨rfl,HB5.o⟩
end Known11
namespace Long11
open Go.RowKit Go.Lib B Rd TermPure LinesPure Tri SortP Print Long Env
def looked (l:List Triple):Bool:=decide (total l ≤ 9000) && l.all isTriple
theorem looked_total {l:List Triple} (h:looked l = true):total l ≤ 9000:=by
 unfold looked at h
 simp only [Bool.and_eq_true,decide_eq_true_eq] at h
 exact h.1
theorem looked_valid {l:List Triple} (h:looked l = true):∀ t ∈ l,isTriple t = true:=by
 unfold looked at h
 simp only [Bool.and_eq_true,decide_eq_true_eq] at h
 exact List.all_eq_true.1 h.2
theorem looked_big {l:List Triple} {k:Nat} (h:9000 < total (l.take k)):looked l = false:=by
 have:=total_le l k
 unfold looked
 rw [dF (by omega)]
 try rfl
theorem looked_none {l:List Triple} {t:Triple} (ht:t ∈ l) (h:isTriple t = false):looked l = false:=by
 unfold looked
 have:l.all isTriple = false:=by
  rw [← Bool.not_eq_true,List.all_eq_true]
  intro h2
  rw [h2 _ ht] at h
  cases h
 rw [this,Bool.and_false]
theorem long_calls (l:List Triple) (A:Option Addr) (c:Nat) (w:World) (he:Env w) (HL:triK.sl.M w (fun k=>k < w.heap.size) l [.slice A l.length c]) :
  Calls Tryz.prog 13 #[.slice A l.length c] w fun e w'=>e = .returned (.bool (!looked l))∧Below w.heap.size w w':=by
 have HF:=Zz (row_fits HL)
 have HR:=Zz (row_cells HL)
 have h47:=sl_len HL
 have HE:=Zz he
 clear HL he
 go_enter Tryz.func13,Tryz.ntmps13
 go_wp2
 go_loopw [3,4] (fun vn vi wr=>∃ k n:Nat,k ≤ l.length∧vi = .int .i64 k∧vn = .int .i64 n∧n ≤ 2251799813685248∧Hid (n = total (l.take k)∧(l.take k).all isTriple = true)∧Hid (Below w.heap.size w wr)) (fun _ vi _=>l.length - (intOf vi).toNat)
 case atStart=>exact ⟨0,0,by omega,rfl,rfl,by omega,Zz ⟨rfl,rfl⟩,Zz (bR _ _)⟩
 case round =>
  obtain ⟨k,n,hk,rfl,rfl,hn,HT,HW⟩:=hrel
  by_cases hlt:k < l.length
  ·
   have hd:decide (k < l.length) = true:=dT hlt
   have ik:(k:Int) < (l.length:Int):=by omega
   by_cases hl:9000 < n
   ·
    have hd2:decide (n ≤ 9000) = false:=dF (by omega)
    have hd3:decide (9000 < n) = true:=dT hl
    have HV:Hid (looked l = false):=Zz (looked_big (k:=k) (by rw [← HT.o.1];exact hl))
    go_wp2
    go_ret
    exact ⟨by rw [HV.o];rfl,HW.o⟩
   ·
    have hd2:decide (n ≤ 9000) = true:=dT (by omega)
    obtain ⟨b,off,rfl,hb,hcells⟩:=HR.o k hlt
    obtain ⟨z0,z1,z2,z3,z4,z5,z6,z7,z8⟩:=(hcells k hlt).below HW.o
    have HT2:=Zz (total_take l k hlt)
    have hf:=HF.o l[k] (List.getElem_mem hlt)
    have HAll:Hid ((l.take (k + 1)).all isTriple = ((l.take k).all isTriple && isTriple l[k])):=Zz (by rw [List.take_succ_eq_append_getElem hlt,List.all_append];simp)
    have HNo:Hid (isTriple l[k] = false → looked l = false):=Zz (fun h=>looked_none (List.getElem_mem hlt) h)
    clear hcells
    obtain ⟨t,ht⟩:∃ t,t = l[k]:=⟨_,rfl⟩
    rw [← ht] at z0 z1 z2 z3 z4 z5 z6 z7 z8 HT2 hf HAll HNo
    clear ht
    have HI:=Zz (fun w he=>Ref5.is5w_calls t hf w he)
    obtain ⟨r,hr⟩:∃ r,r = isTriple t:=⟨_,rfl⟩
    rw [← hr] at HAll HNo HI
    clear hr
    obtain ⟨⟨sk,sx,se⟩,⟨pk,px,pe⟩,⟨ok,ox,oe⟩⟩:=t
    obtain ⟨⟨_,a1,a2⟩,⟨_,a3,a4⟩,⟨_,a5,a6⟩⟩:=hf
    have HWt:Hid (wt ⟨⟨sk,sx,se⟩,⟨pk,px,pe⟩,⟨ok,ox,oe⟩⟩ = 3 + sx.length + se.length + px.length + pe.length + ox.length + oe.length):=Zz rfl
    unfold Ref5.tripleV at HI
    dsimp only at z0 z1 z2 z3 z4 z5 z6 z7 z8 a1 a2 a3 a4 a5 a6 HI
    have y1:=mkS_size sx
    have y2:=mkS_size se
    have y3:=mkS_size px
    have y4:=mkS_size pe
    have y5:=mkS_size ox
    have y6:=mkS_size oe
    have HWd:=Zz (fun nq=>bel_drewN HW.o nq)
    have HEd:=Zz (fun nq=>HE.o.below (HWd.o nq))
    go_wp2_with fail
    go_quiet (fail)
    cases r
    ·
     go_wp2_with fail
     refine (HI.o _ (HEd.o _)).mono ?_
     rintro e w2 ⟨rfl,hb2⟩
     have HW2:=Zz (bel_step (HWd.o _) hb2)
     clear hb2
     go_wp2
     go_ret
     exact ⟨by rw [HNo.o (by first | rfl | trivial)];rfl,HW2.o⟩
    ·
     go_wp2_with fail
     refine (HI.o _ (HEd.o _)).mono ?_
     rintro e w2 ⟨rfl,hb2⟩
     have HW2:=Zz (bel_step (HWd.o _) hb2)
     clear hb2
     go_wp2
     go_roundw
     case rel=>exact ⟨k + 1,n + (3 + sx.length + se.length + px.length + pe.length + ox.length + oe.length),by omega,by go_num,by go_num,by omega,Zz ⟨by rw [HT2.o,HT.o.1,HWt.o],by rw [HAll.o,HT.o.2];rfl⟩,HW2⟩
     case measure=>simp [intOf];omega
  ·
   have hd:decide (k < l.length) = false:=dF hlt
   obtain rfl:k = l.length:=by omega
   have HV:Hid ((!looked l) = decide (9000 < n)):=Zz (by
    obtain ⟨h1,h2⟩:=HT.o
    rw [List.take_length] at h1 h2
    unfold looked
    rw [h2,← h1,Bool.and_true]
    by_cases h:n ≤ 9000
    ·
     rw [dT h,dF (by omega)];rfl
    ·
     rw [dF h,dT (by omega)];rfl)
   go_wp2
   go_ret
   exact ⟨by rw [HV.o];first | rfl | (congr 2;simp;omega) | simp,HW.o⟩
end Long11
namespace SortW
open Go.RowKit Go.Lib B Rd Utf TermPure LinesPure Tx Env Tri SortP Print Cmp Long
theorem refprint_calls (l:List Triple) (A:Option Addr) (c:Nat) (w:World) (HL:triK.sl.M w (fun k=>k < w.heap.size) l [.slice A l.length c]) (hs:∀ t ∈ l,SmallT t) (hn:(l.flatMap lineN).length ≤ 140737488355328) :
  Calls Tryz.prog 14 #[.slice A l.length c] w fun e w'=>e = .returned (.string (mkS (l.flatMap lineN)))∧Below w.heap.size w w':=by
 have HR:=Zz (row_cells HL)
 have HS:=Zz hs
 have HN:=Zz hn
 have h47:=sl_len HL
 clear HL hs hn
 go_enter Tryz.func14,Tryz.ntmps14
 go_wp2
 go_loopw [3,4] (fun v3 vi wr=>∃ (k:Nat) (S:List UInt8),vi = .int .i64 k∧v3 = .string (mkS S)∧k ≤ l.length∧Hid (S = (l.take k).flatMap lineN∧Below w.heap.size w wr)) (fun _ vi _=>l.length - (intOf vi).toNat)
 case atStart=>exact ⟨0,[],rfl,rfl,by omega,Zz ⟨rfl,bR _ _⟩⟩
 case round =>
  obtain ⟨k,S,rfl,rfl,hkL,HI⟩:=hrel
  by_cases hlt:k < l.length
  ·
   have hd:decide (k < l.length) = true:=dT hlt
   have ik:(k:Int) < (l.length:Int):=by omega
   obtain ⟨b,off,rfl,hbs,hcells⟩:=HR.o k hlt
   have hcx:=(hcells k hlt).below HI.o.2
   obtain ⟨x,hx⟩:∃ x,x = l[k]:=⟨_,rfl⟩
   rw [← hx] at hcx
   have fs:=HS.o x (by rw [hx];exact List.getElem_mem hlt)
   have HT:=Zz (flat_take l k hlt)
   rw [← hx,← HI.o.1] at HT
   have hle:=flat_le HN.o k hlt (x:=lineN x) (by rw [flat_take l k hlt,← hx])
   rw [← HI.o.1] at hle
   have HB:=Zz HI.o.2
   clear hx hcells HI
   have HS1:=Zz (fun w=>RefCmp.show4_calls x.s fs.1 w)
   have HS2:=Zz (fun w=>RefCmp.show4_calls x.p fs.2.1 w)
   have HS3:=Zz (fun w=>RefCmp.show4_calls x.o fs.2.2 w)
   have HLN:Hid (lineN x = shown x.s ++ (32 :: (shown x.p ++ (32 :: (shown x.o ++ [32,46,10]))))):=Zz rfl
   have hlen:(lineN x).length = (shown x.s).length + 1 + (shown x.p).length + 1 + (shown x.o).length + 3:=by rw [HLN.o];simp;omega
   rw [hlen] at hle
   clear fs hlen
   have x0:=fun p=>(hcx.bel p).c0
   have x1:=fun p=>(hcx.bel p).c1
   have x2:=fun p=>(hcx.bel p).c2
   have x3:=fun p=>(hcx.bel p).c3
   have x4:=fun p=>(hcx.bel p).c4
   have x5:=fun p=>(hcx.bel p).c5
   have x6:=fun p=>(hcx.bel p).c6
   have x7:=fun p=>(hcx.bel p).c7
   have x8:=fun p=>(hcx.bel p).c8
   obtain ⟨⟨sk,sx,se⟩,⟨pk,px,pe⟩,⟨ok,ox,oe⟩⟩:=x
   unfold Ref5.termV at HS1 HS2 HS3
   dsimp only at *
   generalize shown ⟨sk,sx,se⟩ = S1 at *
   generalize shown ⟨pk,px,pe⟩ = S2 at *
   generalize shown ⟨ok,ox,oe⟩ = S3 at *
   have y0:=mkS_size S
   have y1:=mkS_size S1
   have y2:=mkS_size S2
   have y3:=mkS_size S3
   have q1:(⟨#[32]⟩:ByteArray).size = 1:=rfl
   have q3:(⟨#[32,46,10]⟩:ByteArray).size = 3:=rfl
   have z0:(mkS S ++ mkS S1).size = S.length + S1.length:=by rw [ByteArray.size_append,y0,y1]
   have z1:(mkS S ++ mkS S1 ++ (⟨#[32]⟩:ByteArray)).size = S.length + S1.length + 1:=by rw [ByteArray.size_append,z0,q1]
   have z2:(mkS S ++ mkS S1 ++ (⟨#[32]⟩:ByteArray) ++ mkS S2).size = S.length + S1.length + 1 + S2.length:=by rw [ByteArray.size_append,z1,y2]
   have z3:(mkS S ++ mkS S1 ++ (⟨#[32]⟩:ByteArray) ++ mkS S2 ++ (⟨#[32]⟩:ByteArray)).size = S.length + S1.length + 1 + S2.length + 1:=by rw [ByteArray.size_append,z2,q1]
   have z4:(mkS S ++ mkS S1 ++ (⟨#[32]⟩:ByteArray) ++ mkS S2 ++ (⟨#[32]⟩:ByteArray) ++ mkS S3).size = S.length + S1.length + 1 + S2.length + 1 + S3.length:=by rw [ByteArray.size_append,z3,y3]
   have HCat:Hid (mkS S ++ mkS S1 ++ (⟨#[32]⟩:ByteArray) ++ mkS S2 ++ (⟨#[32]⟩:ByteArray) ++ mkS S3 ++ (⟨#[32,46,10]⟩:ByteArray) = mkS (S ++ lineN ⟨⟨sk,sx,se⟩,⟨pk,px,pe⟩,⟨ok,ox,oe⟩⟩)):=Zz (by
    rw [HLN.o,mkS_lit,mkS_lit,mkS_append,mkS_append,mkS_append,mkS_append,mkS_append,mkS_append]
    simp)
   go_upto_region 5 with fail
   refine QT.region_all (by kernel_rfl) (by kernel_rfl) ?_
   iterate 6 (go_big_quiet_step (fail))
   go_big_quiet_step (exact QT.Bel.call _ (HS1.o _))
   iterate 7 (go_big_quiet_step (fail))
   go_big_quiet_step (exact QT.Bel.call _ (HS2.o _))
   iterate 7 (go_big_quiet_step (fail))
   go_big_quiet_step (exact QT.Bel.call _ (HS3.o _))
   iterate 3 (go_big_quiet_step (fail))
   refine wpQuiet_nil ?_
   intro w2 hw'
   obtain ⟨⟨_,hb⟩,rfl⟩:=hw'
   have HW2:=Zz (bel_step HB.o hb)
   clear hb x0 x1 x2 x3 x4 x5 x6 x7 x8 hcx HB
   go_wp2
   go_roundw
   case rel=>exact ⟨k + 1,_,by go_num,by rw [HCat.o],by omega,Zz ⟨HT.o.symm,HW2.o⟩⟩
   case measure=>simp [intOf];omega
  ·
   have hd:decide (k < l.length) = false:=dF hlt
   obtain rfl:k = l.length:=by omega
   have HV:Hid (S = l.flatMap lineN∧Below w.heap.size w wr):=Zz ⟨by rw [HI.o.1,List.take_length],HI.o.2⟩
   clear HI
   go_wp2
   go_ret
   rw [← HV.o.1]
   exact ⟨rfl,HV.o.2⟩
end SortW
namespace SPrint
open Go.Lib TermPure LinesPure Tri SortP Print ParseP ParseOk
theorem lineN_eq (t:Triple):lineN t = Round.lineT t ++ [10]:=by
 unfold lineN Round.lineT
 simp
theorem stands_print (l:List Triple) (h:Valid l):Stands (l.flatMap lineN) l l.length:=
 Stands.flat l fun t ht=>by rw [lineN_eq];exact Stands.shown (h t ht)
theorem parse_print {l:List Triple} (h:Valid l) (hl:l.length ≤ 100) (hx:(l.flatMap lineN).length ≤ 20000):parse (l.flatMap lineN) = (sortT l,l.length,0):=
 (stands_print l h).parse h (by omega) hl hx
end SPrint
namespace SPrint
open Go.Lib TermPure LinesPure Tri SortP Print ParseP ParseOk
end SPrint
namespace Known
open Go.RowKit Go.Lib B Rd Utf TermPure LinesPure Tx Env Tri Ref5
theorem one_row (w:World) (t:Triple) (ht:FitsW3 t):triK.sl.M (w.alloc (.cells (triL t).toArray 36)) (fun k=>k < (w.alloc (.cells (triL t).toArray 36)).heap.size) [t] [.slice (some ⟨w.heap.size,0,none⟩) 1 1]:=by
 refine ⟨some ⟨w.heap.size,0,none⟩,1,rfl,lR _,⟨by simp,by unfold maxLen;omega⟩,fun h=>(by cases h),fun i x hx=>?_⟩
 cases i with
 | zero =>
  simp at hx
  subst hx
  refine ⟨_,triL t,rfl,by simp,⟨rfl,ht⟩,fun j u hu=>?_⟩
  rw [Nat.zero_mul,Nat.zero_add,add_plain,World.cell?,Kd.heap_new]
  simpa using hu
 | succ i=>simp at hx
end Known
namespace SortW
open Go.RowKit Go.Lib B Rd Utf TermPure LinesPure Tx Env Tri SortP Print Cmp Long
theorem cellsT:(Tryz.prog).cellsOf 36 = triK.sz:=by kernel_rfl
theorem nine {w:World} {g:Nat} {t:Triple} (h:C9 w g 0 t):w.cell? ⟨g,0,none⟩ = some (.int .i64 t.s.kind)∧w.cell? ⟨g,1,none⟩ = some (.string (mkS t.s.text))∧w.cell? ⟨g,2,none⟩ = some (.string (mkS t.s.extra))∧w.cell? ⟨g,3,none⟩ = some (.int .i64 t.p.kind)∧w.cell? ⟨g,4,none⟩ = some (.string (mkS t.p.text))∧w.cell? ⟨g,5,none⟩ = some (.string (mkS t.p.extra))∧w.cell? ⟨g,6,none⟩ = some (.int .i64 t.o.kind)∧w.cell? ⟨g,7,none⟩ = some (.string (mkS t.o.text))∧w.cell? ⟨g,8,none⟩ = some (.string (mkS t.o.extra)):=by
 obtain ⟨c0,c1,c2,c3,c4,c5,c6,c7,c8⟩:=h
 simp only [Nat.zero_add] at *
 exact ⟨c0,c1,c2,c3,c4,c5,c6,c7,c8⟩
theorem one_grown {W w1:World} {g:Nat} {r:Option Nat} {t:Triple} (ht:FitsW3 t) (h:C9 W g 0 t) (hg:W.grownBy w1 r) (hne:some g ≠ r):triK.sl.M w1 (fun _=>True) [t] [.slice (some ⟨g,0,none⟩) 1 1]:=by
 refine ⟨some ⟨g,0,none⟩,1,rfl,lR _,⟨by simp,by unfold maxLen;omega⟩,fun h=>(by cases h),fun i x hx=>?_⟩
 cases i with
 | zero =>
  simp at hx
  subst hx
  refine ⟨_,triL t,rfl,trivial,⟨rfl,ht⟩,fun j u hu=>?_⟩
  rw [Nat.zero_mul,Nat.zero_add,add_plain]
  obtain ⟨c0,c1,c2,c3,c4,c5,c6,c7,c8⟩:=h.moved (hg.block g h.lt hne)
  have hj:j < 9:=(List.getElem?_eq_some_iff.1 hu).1
  match j,hj with
  | 0,_=>cases hu;exact c0
  | 1,_=>cases hu;exact c1
  | 2,_=>cases hu;exact c2
  | 3,_=>cases hu;exact c3
  | 4,_=>cases hu;exact c4
  | 5,_=>cases hu;exact c5
  | 6,_=>cases hu;exact c6
  | 7,_=>cases hu;exact c7
  | 8,_=>cases hu;exact c8
 | succ i=>simp at hx
theorem own0_1 (w:World):triK.own 36 (w.alloc (.cells #[] 36)) w.heap.size TT (.slice (some ⟨w.heap.size,0,none⟩) 0 0) []:=
 Kd.own_block (cells:=[]) (xs:=[]) (lR _) (Kd.heap_new _ _) rfl (by simp) (fun i x h=>by simp at h)
theorem own0_2 (w:World) (o:Obj):triK.own 36 ((w.alloc o).alloc (.cells #[] 36)) w.heap.size TT (.slice (some ⟨w.heap.size + 1,0,none⟩) 0 0) []:=by
 have h:=own0_1 (w.alloc o)
 rw [show (w.alloc o).heap.size = w.heap.size + 1 by simp] at h
 exact Kd.own_lower (by omega) h
theorem C9_new1 (w:World) (o:Obj) (t:Triple):C9 ((w.alloc o).alloc (.cells (triL t).toArray 36)).drew (w.heap.size + 1) 0 t:=by
 have h:=C9.new (w.alloc o) t
 rw [show (w.alloc o).heap.size = w.heap.size + 1 by simp] at h
 exact h.moved rfl
theorem C9_new2 (w:World) (t:Triple) (o:Obj):C9 ((w.alloc (.cells (triL t).toArray 36)).alloc o).drew w.heap.size 0 t:=
 ((C9.new w t).alloc o).moved rfl
theorem putT_same:∀ (l:List Triple) (t:Triple) (i:Nat) (hi:i < l.length),(∀ j (h:j < l.length),j < i → cmpT l[j] t < 0) → cmpT l[i] t = 0 → putT l t = l
 | [],_,_,h,_,_=>by simp at h
 | x :: l,t,0,_,_,h0=>by
  simp at h0
  rw [putT,if_neg (by omega),if_pos h0]
 | x :: l,t,i + 1,hi,hlt,h0=>by
  have h1:=hlt 0 (by simp) (by omega)
  simp at h1
  rw [putT,if_pos h1,putT_same l t i (by simpa using hi) (fun j h hj=>by have:=hlt (j + 1) (by simpa using h) (by omega);simpa using this) (by simpa using h0)]
theorem putT_ins:∀ (l:List Triple) (t:Triple) (i:Nat),i ≤ l.length → (∀ j (h:j < l.length),j < i → cmpT l[j] t < 0) → (∀ h:i < l.length,0 < cmpT l[i] t) → putT l t = l.take i ++ [t] ++ l.drop i
 | [],_,i,_,_,_=>by simp [putT]
 | x :: l,t,0,_,_,h0=>by
  have:=h0 (by simp)
  simp at this
  rw [putT,if_neg (by omega),if_neg (by omega)]
  simp
 | x :: l,t,i + 1,hi,hlt,h0=>by
  have h1:=hlt 0 (by simp) (by omega)
  simp at h1
  rw [putT,if_pos h1,putT_ins l t i (by simpa using hi) (fun j h hj=>by have:=hlt (j + 1) (by simpa using h) (by omega);simpa using this) (fun h=>by have:=h0 (by simpa using h);simpa using this)]
  simp
theorem put_calls (l:List Triple) (t:Triple) (A:Option Addr) (c:Nat) (w:World) (HL:triK.sl.M w (fun k=>k < w.heap.size) l [.slice A l.length c]) (hs:∀ x ∈ l,SmallT x) (hst:SmallT t) (hft:FitsW3 t) (hb:l.length ≤ 1000000) :
  Calls Tryz.prog 50 #[.slice A l.length c,Ref5.tripleV t] w fun e w'=>∃ A' c',e = .returned (.slice A' (putT l t).length c')∧triK.sl.M w' TT (putT l t) [.slice A' (putT l t).length c']∧Below w.heap.size w w':=by
 have HR:=Zz (row_cells HL)
 have HS:=Zz hs
 have HF:=Zz (row_fits HL)
 have h47:=sl_len HL
 obtain ⟨A',c',he,hlc,⟨hl47,hcm⟩,hA,hrow⟩:=HL
 obtain ⟨rfl,rfl⟩:A = A'∧c = c':=by simpa using he
 clear he
 have HROW:Hid (triK.row w TT A l):=Zz (Kd.row_mono (fun _ _ _=>trivial) hrow)
 have HC0:=Zz (C9.new w t)
 have HX:Hid (Ref5.tripleV t = .agg (triL t).toArray):=Zz rfl
 clear hrow hs
 unfold Ref5.tripleV
 go_enter Tryz.func50,Tryz.ntmps50
 go_wp2
 go_loopw [5] (fun vi wr=>∃ i:Nat,vi = .int .i64 i∧i ≤ l.length∧Hid ((∀ j (h:j < l.length),j < i → cmpT l[j] t < 0)∧Below w.heap.size w wr∧C9 wr w.heap.size 0 t)) (fun vi _=>l.length - (intOf vi).toNat)
 case atStart=>exact ⟨0,rfl,by omega,Zz ⟨fun j h hj=>by omega,bel_alloc (bR _ _) _,HC0.o⟩⟩
 case round =>
  obtain ⟨i,rfl,hiL,HI⟩:=hrel
  clear HC0
  by_cases hlt:i < l.length
  ·
   have hd:decide (i < l.length) = true:=dT hlt
   have ik:(i:Int) < (l.length:Int):=by omega
   obtain ⟨b,off,rfl,hbs,hcells⟩:=HR.o i hlt
   have hcx:=(hcells i hlt).below HI.o.2.1
   have hcy:=HI.o.2.2
   obtain ⟨x,hx⟩:∃ x,x = l[i]:=⟨_,rfl⟩
   rw [← hx] at hcx
   have HCC:=Zz (fun w=>RefCmp.cmp5_calls x t (by rw [hx];exact HS.o _ (List.getElem_mem hlt)) hst w)
   obtain ⟨v,hv⟩:∃ v,v = cmpT x t:=⟨_,rfl⟩
   rw [← hv] at HCC
   have HNext:Hid (v < 0 → ∀ j (h:j < l.length),j < i + 1 → cmpT l[j] t < 0):=Zz (fun h j hj hji=>by
    by_cases e:j = i
    ·
     subst e
     rw [← hx,← hv]
     exact h
    ·
     exact HI.o.1 j hj (by omega))
   have HSame:Hid (v = 0 → putT l t = l):=Zz (fun h=>putT_same l t i hlt HI.o.1 (by rw [← hx,← hv];exact h))
   have HIns:Hid (0 < v → putT l t = l.take i ++ [t] ++ l.drop i):=Zz (fun h=>putT_ins l t i hiL HI.o.1 (fun h2=>by rw [← hx,← hv];exact h))
   have HIW:=Zz HI.o.2
   clear hcells hx hv
   by_cases hv0:v < 0
   ·
    have hvd:decide (v < 0) = true:=dT hv0
    have HNx:=Zz (HNext.o hv0)
    clear HNext HSame HIns hv0
    obtain ⟨⟨sk,sx,se⟩,⟨pk,px,pe⟩,⟨ok,ox,oe⟩⟩:=x
    obtain ⟨⟨sk',sx',se'⟩,⟨pk',px',pe'⟩,⟨ok',ox',oe'⟩⟩:=t
    have x0:=fun p=>(hcx.bel p).c0
    have x1:=fun p=>(hcx.bel p).c1
    have x2:=fun p=>(hcx.bel p).c2
    have x3:=fun p=>(hcx.bel p).c3
    have x4:=fun p=>(hcx.bel p).c4
    have x5:=fun p=>(hcx.bel p).c5
    have x6:=fun p=>(hcx.bel p).c6
    have x7:=fun p=>(hcx.bel p).c7
    have x8:=fun p=>(hcx.bel p).c8
    have y0:=fun p=>(hcy.bel p).c0
    have y1:=fun p=>(hcy.bel p).c1
    have y2:=fun p=>(hcy.bel p).c2
    have y3:=fun p=>(hcy.bel p).c3
    have y4:=fun p=>(hcy.bel p).c4
    have y5:=fun p=>(hcy.bel p).c5
    have y6:=fun p=>(hcy.bel p).c6
    have y7:=fun p=>(hcy.bel p).c7
    have y8:=fun p=>(hcy.bel p).c8
    dsimp only at x0 x1 x2 x3 x4 x5 x6 x7 x8 y0 y1 y2 y3 y4 y5 y6 y7 y8
    unfold Ref5.tripleV at HCC
    dsimp only at HCC
    go_upto_region 2 with fail
    refine QT.region_all (by kernel_rfl) (by kernel_rfl) ?_
    iterate 10 (go_big_quiet_step (fail))
    go_big_quiet_step (exact QT.Bel.call _ (HCC.o _))
    iterate 2 (go_big_quiet_step (fail))
    refine wpQuiet_nil ?_
    intro w2 hw'
    obtain ⟨⟨_,hb⟩,rfl⟩:=hw'
    have HW2:Hid (Below w.heap.size w w2∧C9 w2 w.heap.size 0 ⟨⟨sk',sx',se'⟩,⟨pk',px',pe'⟩,⟨ok',ox',oe'⟩⟩):=Zz ⟨bel_step HIW.o.1 hb,hcy.below hb⟩
    clear hb x0 x1 x2 x3 x4 x5 x6 x7 x8 y0 y1 y2 y3 y4 y5 y6 y7 y8 hcx hcy HI HIW
    go_wp2
    go_roundw
    case rel=>exact ⟨i + 1,by go_num,by omega,Zz ⟨HNx.o,HW2.o⟩⟩
    case measure=>simp [intOf];omega
   ·
    have hvd:decide (v < 0) = false:=dF hv0
    by_cases hve0:v = 0
    ·
     have hve:(v == 0) = true:=by rw [hve0];rfl
     have HPut:=Zz (HSame.o hve0)
     clear HNext HSame HIns hv0
     obtain ⟨⟨sk,sx,se⟩,⟨pk,px,pe⟩,⟨ok,ox,oe⟩⟩:=x
     obtain ⟨⟨sk',sx',se'⟩,⟨pk',px',pe'⟩,⟨ok',ox',oe'⟩⟩:=t
     have x0:=fun p=>(hcx.bel p).c0
     have x1:=fun p=>(hcx.bel p).c1
     have x2:=fun p=>(hcx.bel p).c2
     have x3:=fun p=>(hcx.bel p).c3
     have x4:=fun p=>(hcx.bel p).c4
     have x5:=fun p=>(hcx.bel p).c5
     have x6:=fun p=>(hcx.bel p).c6
     have x7:=fun p=>(hcx.bel p).c7
     have x8:=fun p=>(hcx.bel p).c8
     have y0:=fun p=>(hcy.bel p).c0
     have y1:=fun p=>(hcy.bel p).c1
     have y2:=fun p=>(hcy.bel p).c2
     have y3:=fun p=>(hcy.bel p).c3
     have y4:=fun p=>(hcy.bel p).c4
     have y5:=fun p=>(hcy.bel p).c5
     have y6:=fun p=>(hcy.bel p).c6
     have y7:=fun p=>(hcy.bel p).c7
     have y8:=fun p=>(hcy.bel p).c8
     dsimp only at x0 x1 x2 x3 x4 x5 x6 x7 x8 y0 y1 y2 y3 y4 y5 y6 y7 y8
     unfold Ref5.tripleV at HCC
     dsimp only at HCC
     go_upto_region 2 with fail
     refine QT.region_all (by kernel_rfl) (by kernel_rfl) ?_
     iterate 10 (go_big_quiet_step (fail))
     go_big_quiet_step (exact QT.Bel.call _ (HCC.o _))
     iterate 2 (go_big_quiet_step (fail))
     refine wpQuiet_nil ?_
     intro w2 hw'
     obtain ⟨⟨_,hb⟩,rfl⟩:=hw'
     have HW2:Hid (Below w.heap.size w w2∧C9 w2 w.heap.size 0 ⟨⟨sk',sx',se'⟩,⟨pk',px',pe'⟩,⟨ok',ox',oe'⟩⟩):=Zz ⟨bel_step HIW.o.1 hb,hcy.below hb⟩
     have hcx:=hcx.below hb
     have hcy:=HW2.o.2
     clear hb x0 x1 x2 x3 x4 x5 x6 x7 x8 y0 y1 y2 y3 y4 y5 y6 y7 y8 HI HIW
     go_wp2
     have x0:=fun p=>(hcx.bel p).c0
     have x1:=fun p=>(hcx.bel p).c1
     have x2:=fun p=>(hcx.bel p).c2
     have x3:=fun p=>(hcx.bel p).c3
     have x4:=fun p=>(hcx.bel p).c4
     have x5:=fun p=>(hcx.bel p).c5
     have x6:=fun p=>(hcx.bel p).c6
     have x7:=fun p=>(hcx.bel p).c7
     have x8:=fun p=>(hcx.bel p).c8
     have y0:=fun p=>(hcy.bel p).c0
     have y1:=fun p=>(hcy.bel p).c1
     have y2:=fun p=>(hcy.bel p).c2
     have y3:=fun p=>(hcy.bel p).c3
     have y4:=fun p=>(hcy.bel p).c4
     have y5:=fun p=>(hcy.bel p).c5
     have y6:=fun p=>(hcy.bel p).c6
     have y7:=fun p=>(hcy.bel p).c7
     have y8:=fun p=>(hcy.bel p).c8
     dsimp only at x0 x1 x2 x3 x4 x5 x6 x7 x8 y0 y1 y2 y3 y4 y5 y6 y7 y8
     go_upto_region 4 with fail
     refine QT.region_all (by kernel_rfl) (by kernel_rfl) ?_
     iterate 10 (go_big_quiet_step (fail))
     go_big_quiet_step (exact QT.Bel.call _ (HCC.o _))
     iterate 2 (go_big_quiet_step (fail))
     refine wpQuiet_nil ?_
     intro w2 hw'
     obtain ⟨⟨_,hb⟩,rfl⟩:=hw'
     have HB3:=Zz (bel_step HW2.o.1 hb)
     clear hb x0 x1 x2 x3 x4 x5 x6 x7 x8 y0 y1 y2 y3 y4 y5 y6 y7 y8 hcx hcy HW2
     go_wp2
     go_ret
     rw [HPut.o]
     exact ⟨_,_,rfl,⟨_,_,rfl,hlc,⟨hl47,hcm⟩,hA,Kd.row_below HROW.o HB3.o⟩,HB3.o⟩
    ·
     have hve:(v == 0) = false:=by rw [beq_eq_false_iff_ne];exact hve0
     have HPut:=Zz (HIns.o (by omega))
     clear HNext HSame HIns hv0 hve0
     obtain ⟨⟨sk,sx,se⟩,⟨pk,px,pe⟩,⟨ok,ox,oe⟩⟩:=x
     obtain ⟨⟨sk',sx',se'⟩,⟨pk',px',pe'⟩,⟨ok',ox',oe'⟩⟩:=t
     have x0:=fun p=>(hcx.bel p).c0
     have x1:=fun p=>(hcx.bel p).c1
     have x2:=fun p=>(hcx.bel p).c2
     have x3:=fun p=>(hcx.bel p).c3
     have x4:=fun p=>(hcx.bel p).c4
     have x5:=fun p=>(hcx.bel p).c5
     have x6:=fun p=>(hcx.bel p).c6
     have x7:=fun p=>(hcx.bel p).c7
     have x8:=fun p=>(hcx.bel p).c8
     have y0:=fun p=>(hcy.bel p).c0
     have y1:=fun p=>(hcy.bel p).c1
     have y2:=fun p=>(hcy.bel p).c2
     have y3:=fun p=>(hcy.bel p).c3
     have y4:=fun p=>(hcy.bel p).c4
     have y5:=fun p=>(hcy.bel p).c5
     have y6:=fun p=>(hcy.bel p).c6
     have y7:=fun p=>(hcy.bel p).c7
     have y8:=fun p=>(hcy.bel p).c8
     dsimp only at x0 x1 x2 x3 x4 x5 x6 x7 x8 y0 y1 y2 y3 y4 y5 y6 y7 y8
     unfold Ref5.tripleV at HCC
     dsimp only at HCC
     go_upto_region 2 with fail
     refine QT.region_all (by kernel_rfl) (by kernel_rfl) ?_
     iterate 10 (go_big_quiet_step (fail))
     go_big_quiet_step (exact QT.Bel.call _ (HCC.o _))
     iterate 2 (go_big_quiet_step (fail))
     refine wpQuiet_nil ?_
     intro w2 hw'
     obtain ⟨⟨_,hb⟩,rfl⟩:=hw'
     have HW2:Hid (Below w.heap.size w w2∧C9 w2 w.heap.size 0 ⟨⟨sk',sx',se'⟩,⟨pk',px',pe'⟩,⟨ok',ox',oe'⟩⟩):=Zz ⟨bel_step HIW.o.1 hb,hcy.below hb⟩
     have hcx:=hcx.below hb
     have hcy:=HW2.o.2
     clear hb x0 x1 x2 x3 x4 x5 x6 x7 x8 y0 y1 y2 y3 y4 y5 y6 y7 y8 HI HIW
     go_wp2
     have x0:=fun p=>(hcx.bel p).c0
     have x1:=fun p=>(hcx.bel p).c1
     have x2:=fun p=>(hcx.bel p).c2
     have x3:=fun p=>(hcx.bel p).c3
     have x4:=fun p=>(hcx.bel p).c4
     have x5:=fun p=>(hcx.bel p).c5
     have x6:=fun p=>(hcx.bel p).c6
     have x7:=fun p=>(hcx.bel p).c7
     have x8:=fun p=>(hcx.bel p).c8
     have y0:=fun p=>(hcy.bel p).c0
     have y1:=fun p=>(hcy.bel p).c1
     have y2:=fun p=>(hcy.bel p).c2
     have y3:=fun p=>(hcy.bel p).c3
     have y4:=fun p=>(hcy.bel p).c4
     have y5:=fun p=>(hcy.bel p).c5
     have y6:=fun p=>(hcy.bel p).c6
     have y7:=fun p=>(hcy.bel p).c7
     have y8:=fun p=>(hcy.bel p).c8
     dsimp only at x0 x1 x2 x3 x4 x5 x6 x7 x8 y0 y1 y2 y3 y4 y5 y6 y7 y8
     go_upto_region 4 with fail
     refine QT.region_all (by kernel_rfl) (by kernel_rfl) ?_
     iterate 10 (go_big_quiet_step (fail))
     go_big_quiet_step (exact QT.Bel.call _ (HCC.o _))
     iterate 2 (go_big_quiet_step (fail))
     refine wpQuiet_nil ?_
     intro w2 hw'
     obtain ⟨⟨_,hb⟩,rfl⟩:=hw'
     have HB3:=Zz (bel_step HW2.o.1 hb)
     have hcz:=hcy.below hb
     clear hb x0 x1 x2 x3 x4 x5 x6 x7 x8 y0 y1 y2 y3 y4 y5 y6 y7 y8 hcx hcy HW2
     go_wp2
     obtain ⟨A1,-,-,htake,hrow1⟩:=Kd.cut_run (P:=Tryz.prog) triK 22 36 Tryz.underlying22 cellsT zeroV 120 info_tri (some ⟨b,off,none⟩) l.length c 0 i (Nat.zero_le _) hiL hlc ⟨hl47,hcm⟩ hA
     obtain ⟨A2,-,hdrop,-,hrow2⟩:=Kd.cut_run (P:=Tryz.prog) triK 22 36 Tryz.underlying22 cellsT zeroV 120 info_tri (some ⟨b,off,none⟩) l.length c i l.length hiL (lR _) hlc ⟨hl47,hcm⟩ hA
     have HQ1:=Zz (hrow1 w TT l rfl HROW.o)
     have HQ2:=Zz (hrow2 w TT l rfl HROW.o)
     rw [List.drop_zero] at HQ1
     rw [List.take_length] at HQ2
     obtain ⟨pre,hpre⟩:∃ pre,pre = l.take i:=⟨_,rfl⟩
     obtain ⟨suf,hsuf⟩:∃ suf,suf = l.drop i:=⟨_,rfl⟩
     have hpl:pre.length = i:=by rw [hpre,List.length_take];omega
     have hsl:suf.length = l.length - i:=by rw [hsuf,List.length_drop]
     have hs1:∀ (kh:IntKind) (w:World),(Instr.slice 22 (.slice (some ⟨b,off,none⟩) l.length c) none (some (.int kh (i:Int))) none).run Tryz.prog w = .ok (.slice A1 pre.length c) w:=fun kh w=>by rw [hpl];exact htake kh w rfl
     obtain ⟨c2,hc2⟩:∃ c2,c2 = c - i:=⟨_,rfl⟩
     have hs2:∀ (kl:IntKind) (w:World),(Instr.slice 22 (.slice (some ⟨b,off,none⟩) l.length c) (some (.int kl (i:Int))) none none).run Tryz.prog w = .ok (.slice A2 suf.length c2) w:=fun kl w=>by rw [hsl,hc2];exact hdrop kl w rfl
     rw [Nat.sub_zero,Nat.sub_zero,← hpre,← hpl] at HQ1
     rw [← hsuf,← hsl,← hc2] at HQ2
     rw [← hpre,← hsuf] at HPut
     have hbp:pre.length ≤ 1000000:=by omega
     have hbs2:suf.length ≤ 1000000:=by omega
     clear htake hdrop hrow1 hrow2 hpre hsuf hc2
     clear hpl hsl
     have HZ:=Zz hcz
     have hB:=HB3.o
     have hY:=bR w2.heap.size w2
     obtain ⟨n0,n1,n2,n3,n4,n5,n6,n7,n8⟩:=hcz
     dsimp only at n0 n1 n2 n3 n4 n5 n6 n7 n8
     go_cut [4] (fun v4 wx=>Hid (triK.own 36 wx w2.heap.size TT v4 (pre ++ [⟨⟨sk',sx',se'⟩,⟨pk',px',pe'⟩,⟨ok',ox',oe'⟩⟩] ++ suf))∧Hid (Below w.heap.size w wx))
     case first =>
      go_region_held3 (fun w'=>w'.cell? ⟨w.heap.size,0,none⟩ = some (Value.int .i64 sk')∧w'.cell? ⟨w.heap.size,1,none⟩ = some (Value.string (mkS sx'))∧w'.cell? ⟨w.heap.size,2,none⟩ = some (Value.string (mkS se'))∧w'.cell? ⟨w.heap.size,3,none⟩ = some (Value.int .i64 pk')∧w'.cell? ⟨w.heap.size,4,none⟩ = some (Value.string (mkS px'))∧w'.cell? ⟨w.heap.size,5,none⟩ = some (Value.string (mkS pe'))∧w'.cell? ⟨w.heap.size,6,none⟩ = some (Value.int .i64 ok')∧w'.cell? ⟨w.heap.size,7,none⟩ = some (Value.string (mkS ox'))∧w'.cell? ⟨w.heap.size,8,none⟩ = some (Value.string (mkS oe')))
       (exact nine (HZ.o.below (by (repeat (first | assumption | exact bR _ _ | refine bel_alloc ?_ _ | refine bel_drew ?_)))))
       (first
        | (refine Kd.own_app_step triK (w0:=w2) w2.heap.size (by rfl) (.tmp 35) (.tmp 38) 22 36 zeroV 120 (by rfl) Tryz.underlying22 info_tri rfl (by decide) (.slice (some ⟨w2.heap.size,0,none⟩) 0 0) [] pre A1 c TT (by rfl) (by rfl) ?ho (.inr ⟨?hr,any_tri⟩) ?hb ?hs ?hl ?_;go_loud (case hl=>simp;omega);go_loud (case ho=>first | exact own0_1 _ | exact Kd.own_drew (own0_1 _) | exact Kd.own_drew (Kd.own_alloc (own0_1 _) _) | exact Kd.own_drew (own0_2 _ _));go_loud (case hr=>exact Kd.M_below HQ1.o (by (repeat (first | assumption | exact bR _ _ | refine bel_alloc ?_ _ | refine bel_drew ?_))));go_loud (case hb=>repeat (first | assumption | exact bR _ _ | refine bel_alloc ?_ _ | refine bel_drew ?_));go_loud (case hs=>simp;try omega);intro v1 w1 ho1 hb1 hg1 hv1;go_loud (rw [List.nil_append] at ho1);have HO1:=Zz ho1;clear ho1 hv1)
        | (refine Kd.own_app_step triK (w0:=w2) w2.heap.size (by rfl) (.tmp 35) (.tmp 38) 22 36 zeroV 120 (by rfl) Tryz.underlying22 info_tri rfl (by decide) (.slice (some ⟨w2.heap.size + 1,0,none⟩) 0 0) [] pre A1 c TT (by rfl) (by rfl) ?ho (.inr ⟨?hr,any_tri⟩) ?hb ?hs ?hl ?_;go_loud (case hl=>simp;omega);go_loud (case ho=>first | exact own0_1 _ | exact Kd.own_drew (own0_1 _) | exact Kd.own_drew (Kd.own_alloc (own0_1 _) _) | exact Kd.own_drew (own0_2 _ _));go_loud (case hr=>exact Kd.M_below HQ1.o (by (repeat (first | assumption | exact bR _ _ | refine bel_alloc ?_ _ | refine bel_drew ?_))));go_loud (case hb=>repeat (first | assumption | exact bR _ _ | refine bel_alloc ?_ _ | refine bel_drew ?_));go_loud (case hs=>simp;try omega);intro v1 w1 ho1 hb1 hg1 hv1;go_loud (rw [List.nil_append] at ho1);have HO1:=Zz ho1;clear ho1 hv1)
        | (refine Kd.own_app_step triK (w0:=w2) w2.heap.size (by rfl) (.tmp 39) (.tmp 41) 22 36 zeroV 120 (by rfl) Tryz.underlying22 info_tri rfl (by decide) v1 pre [⟨⟨sk',sx',se'⟩,⟨pk',px',pe'⟩,⟨ok',ox',oe'⟩⟩] _ 1 TT (by rfl) (by rfl) ?ho (.inr ⟨?hr,any_tri⟩) ?hb ?hs ?hl ?_;go_loud (case hl=>simp;omega);go_loud (case ho=>repeat (first | exact HO1.o | refine Kd.own_drew ?_ | refine Kd.own_alloc ?_ _));go_loud (case hr=>first | exact triK.sl.mono (fun _ _ _=>trivial) (Known.one_row _ ⟨⟨sk',sx',se'⟩,⟨pk',px',pe'⟩,⟨ok',ox',oe'⟩⟩ hft) | (refine one_grown hft ?_ hg1 ?_;(first | exact C9_new1 _ _ ⟨⟨sk',sx',se'⟩,⟨pk',px',pe'⟩,⟨ok',ox',oe'⟩⟩ | exact C9_new2 _ ⟨⟨sk',sx',se'⟩,⟨pk',px',pe'⟩,⟨ok',ox',oe'⟩⟩ _);(simp [Value.ownBlock])));go_loud (case hb=>repeat (first | assumption | exact bR _ _ | refine bel_alloc ?_ _ | refine bel_drew ?_));go_loud (case hs=>have:=hb1.size;first | omega | (simp;omega));intro v2 w4 ho2 hb2 hg2 hv2;have HO2:=Zz ho2;clear ho2 hg2 hv2)
        | (refine Kd.own_app_step triK (w0:=w2) w2.heap.size (by rfl) (.tmp 42) (.tmp 45) 22 36 zeroV 120 (by rfl) Tryz.underlying22 info_tri rfl (by decide) v2 (pre ++ [⟨⟨sk',sx',se'⟩,⟨pk',px',pe'⟩,⟨ok',ox',oe'⟩⟩]) suf A2 c2 TT (by rfl) (by rfl) ?ho (.inr ⟨?hr,any_tri⟩) ?hb ?hs ?hl ?_;go_loud (case hl=>simp;omega);go_loud (case ho=>repeat (first | exact HO2.o | refine Kd.own_drew ?_ | refine Kd.own_alloc ?_ _));go_loud (case hr=>exact Kd.M_below HQ2.o (bel_step hB (by (repeat (first | assumption | exact bR _ _ | refine bel_alloc ?_ _ | refine bel_drew ?_)))));go_loud (case hb=>repeat (first | assumption | exact bR _ _ | refine bel_alloc ?_ _ | refine bel_drew ?_));go_loud (case hs=>have:=hb2.size;first | omega | (simp;omega));intro v3 w5 ho3 hb3 hg3 hv3;have HO3:=Zz ho3;clear ho3 hg3 hv3)
        | fail)
      all_goals (go_wp2_with fail;go_meet;exact ⟨HO3,Zz (bel_step hB hb3)⟩)
     case rest =>
      obtain ⟨HO,HB6⟩:=hcut
      obtain ⟨A9,c9,rfl,_,_⟩:=Kd.own_slice HO.o
      have HM9:=Zz (Kd.own_sl (ok':=TT) HO.o (fun _ _=>trivial) (fun _ _=>trivial))
      rw [← HPut.o] at HM9
      rw [← HPut.o]
      clear HO
      go_wp2
      go_ret
      exact ⟨_,_,rfl,HM9.o,HB6.o⟩
  ·
   have hd:decide (i < l.length) = false:=dF hlt
   have HPut:Hid (putT l t = l.take i ++ [t] ++ l.drop i):=Zz (putT_ins l t i hiL HI.o.1 (fun h=>absurd h hlt))
   have HIW:=Zz HI.o.2
   clear HI hlt
   obtain ⟨⟨sk',sx',se'⟩,⟨pk',px',pe'⟩,⟨ok',ox',oe'⟩⟩:=t
   go_upto_region 2 with fail
   go_quiet (fail)
   go_wp2
   go_upto_region 4 with fail
   go_quiet (fail)
   go_upto_region 6 with fail
   generalize hwy:World.drewN _ _ = w2 at *
   have HB3:Hid (Below w.heap.size w w2):=Zz (by subst hwy;exact bel_drewN (bel_drewN HIW.o.1 _) _)
   have hcz:C9 w2 w.heap.size 0 ⟨⟨sk',sx',se'⟩,⟨pk',px',pe'⟩,⟨ok',ox',oe'⟩⟩:=by subst hwy;exact HIW.o.2.moved rfl
   clear hwy HIW
   obtain ⟨A1,-,-,htake,hrow1⟩:=Kd.cut_run (P:=Tryz.prog) triK 22 36 Tryz.underlying22 cellsT zeroV 120 info_tri (A) l.length c 0 i (Nat.zero_le _) hiL hlc ⟨hl47,hcm⟩ hA
   obtain ⟨A2,-,hdrop,-,hrow2⟩:=Kd.cut_run (P:=Tryz.prog) triK 22 36 Tryz.underlying22 cellsT zeroV 120 info_tri (A) l.length c i l.length hiL (lR _) hlc ⟨hl47,hcm⟩ hA
   have HQ1:=Zz (hrow1 w TT l rfl HROW.o)
   have HQ2:=Zz (hrow2 w TT l rfl HROW.o)
   rw [List.drop_zero] at HQ1
   rw [List.take_length] at HQ2
   obtain ⟨pre,hpre⟩:∃ pre,pre = l.take i:=⟨_,rfl⟩
   obtain ⟨suf,hsuf⟩:∃ suf,suf = l.drop i:=⟨_,rfl⟩
   have hpl:pre.length = i:=by rw [hpre,List.length_take];omega
   have hsl:suf.length = l.length - i:=by rw [hsuf,List.length_drop]
   have hs1:∀ (kh:IntKind) (w:World),(Instr.slice 22 (.slice (A) l.length c) none (some (.int kh (i:Int))) none).run Tryz.prog w = .ok (.slice A1 pre.length c) w:=fun kh w=>by rw [hpl];exact htake kh w rfl
   obtain ⟨c2,hc2⟩:∃ c2,c2 = c - i:=⟨_,rfl⟩
   have hs2:∀ (kl:IntKind) (w:World),(Instr.slice 22 (.slice (A) l.length c) (some (.int kl (i:Int))) none none).run Tryz.prog w = .ok (.slice A2 suf.length c2) w:=fun kl w=>by rw [hsl,hc2];exact hdrop kl w rfl
   rw [Nat.sub_zero,Nat.sub_zero,← hpre,← hpl] at HQ1
   rw [← hsuf,← hsl,← hc2] at HQ2
   rw [← hpre,← hsuf] at HPut
   have hbp:pre.length ≤ 1000000:=by omega
   have hbs2:suf.length ≤ 1000000:=by omega
   clear htake hdrop hrow1 hrow2 hpre hsuf hc2
   clear hpl hsl
   have HZ:=Zz hcz
   have hB:=HB3.o
   have hY:=bR w2.heap.size w2
   obtain ⟨n0,n1,n2,n3,n4,n5,n6,n7,n8⟩:=hcz
   dsimp only at n0 n1 n2 n3 n4 n5 n6 n7 n8
   go_cut [4] (fun v4 wx=>Hid (triK.own 36 wx w2.heap.size TT v4 (pre ++ [⟨⟨sk',sx',se'⟩,⟨pk',px',pe'⟩,⟨ok',ox',oe'⟩⟩] ++ suf))∧Hid (Below w.heap.size w wx))
   case first =>
    go_region_held3 (fun w'=>w'.cell? ⟨w.heap.size,0,none⟩ = some (Value.int .i64 sk')∧w'.cell? ⟨w.heap.size,1,none⟩ = some (Value.string (mkS sx'))∧w'.cell? ⟨w.heap.size,2,none⟩ = some (Value.string (mkS se'))∧w'.cell? ⟨w.heap.size,3,none⟩ = some (Value.int .i64 pk')∧w'.cell? ⟨w.heap.size,4,none⟩ = some (Value.string (mkS px'))∧w'.cell? ⟨w.heap.size,5,none⟩ = some (Value.string (mkS pe'))∧w'.cell? ⟨w.heap.size,6,none⟩ = some (Value.int .i64 ok')∧w'.cell? ⟨w.heap.size,7,none⟩ = some (Value.string (mkS ox'))∧w'.cell? ⟨w.heap.size,8,none⟩ = some (Value.string (mkS oe')))
     (exact nine (HZ.o.below (by (repeat (first | assumption | exact bR _ _ | refine bel_alloc ?_ _ | refine bel_drew ?_)))))
     (first
      | (refine Kd.own_app_step triK (w0:=w2) w2.heap.size (by rfl) (.tmp 35) (.tmp 38) 22 36 zeroV 120 (by rfl) Tryz.underlying22 info_tri rfl (by decide) (.slice (some ⟨w2.heap.size,0,none⟩) 0 0) [] pre A1 c TT (by rfl) (by rfl) ?ho (.inr ⟨?hr,any_tri⟩) ?hb ?hs ?hl ?_;go_loud (case hl=>simp;omega);go_loud (case ho=>first | exact own0_1 _ | exact Kd.own_drew (own0_1 _) | exact Kd.own_drew (Kd.own_alloc (own0_1 _) _) | exact Kd.own_drew (own0_2 _ _));go_loud (case hr=>exact Kd.M_below HQ1.o (by (repeat (first | assumption | exact bR _ _ | refine bel_alloc ?_ _ | refine bel_drew ?_))));go_loud (case hb=>repeat (first | assumption | exact bR _ _ | refine bel_alloc ?_ _ | refine bel_drew ?_));go_loud (case hs=>simp;try omega);intro v1 w1 ho1 hb1 hg1 hv1;go_loud (rw [List.nil_append] at ho1);have HO1:=Zz ho1;clear ho1 hv1)
      | (refine Kd.own_app_step triK (w0:=w2) w2.heap.size (by rfl) (.tmp 35) (.tmp 38) 22 36 zeroV 120 (by rfl) Tryz.underlying22 info_tri rfl (by decide) (.slice (some ⟨w2.heap.size + 1,0,none⟩) 0 0) [] pre A1 c TT (by rfl) (by rfl) ?ho (.inr ⟨?hr,any_tri⟩) ?hb ?hs ?hl ?_;go_loud (case hl=>simp;omega);go_loud (case ho=>first | exact own0_1 _ | exact Kd.own_drew (own0_1 _) | exact Kd.own_drew (Kd.own_alloc (own0_1 _) _) | exact Kd.own_drew (own0_2 _ _));go_loud (case hr=>exact Kd.M_below HQ1.o (by (repeat (first | assumption | exact bR _ _ | refine bel_alloc ?_ _ | refine bel_drew ?_))));go_loud (case hb=>repeat (first | assumption | exact bR _ _ | refine bel_alloc ?_ _ | refine bel_drew ?_));go_loud (case hs=>simp;try omega);intro v1 w1 ho1 hb1 hg1 hv1;go_loud (rw [List.nil_append] at ho1);have HO1:=Zz ho1;clear ho1 hv1)
      | (refine Kd.own_app_step triK (w0:=w2) w2.heap.size (by rfl) (.tmp 39) (.tmp 41) 22 36 zeroV 120 (by rfl) Tryz.underlying22 info_tri rfl (by decide) v1 pre [⟨⟨sk',sx',se'⟩,⟨pk',px',pe'⟩,⟨ok',ox',oe'⟩⟩] _ 1 TT (by rfl) (by rfl) ?ho (.inr ⟨?hr,any_tri⟩) ?hb ?hs ?hl ?_;go_loud (case hl=>simp;omega);go_loud (case ho=>repeat (first | exact HO1.o | refine Kd.own_drew ?_ | refine Kd.own_alloc ?_ _));go_loud (case hr=>first | exact triK.sl.mono (fun _ _ _=>trivial) (Known.one_row _ ⟨⟨sk',sx',se'⟩,⟨pk',px',pe'⟩,⟨ok',ox',oe'⟩⟩ hft) | (refine one_grown hft ?_ hg1 ?_;(first | exact C9_new1 _ _ ⟨⟨sk',sx',se'⟩,⟨pk',px',pe'⟩,⟨ok',ox',oe'⟩⟩ | exact C9_new2 _ ⟨⟨sk',sx',se'⟩,⟨pk',px',pe'⟩,⟨ok',ox',oe'⟩⟩ _);(simp [Value.ownBlock])));go_loud (case hb=>repeat (first | assumption | exact bR _ _ | refine bel_alloc ?_ _ | refine bel_drew ?_));go_loud (case hs=>have:=hb1.size;first | omega | (simp;omega));intro v2 w4 ho2 hb2 hg2 hv2;have HO2:=Zz ho2;clear ho2 hg2 hv2)
      | (refine Kd.own_app_step triK (w0:=w2) w2.heap.size (by rfl) (.tmp 42) (.tmp 45) 22 36 zeroV 120 (by rfl) Tryz.underlying22 info_tri rfl (by decide) v2 (pre ++ [⟨⟨sk',sx',se'⟩,⟨pk',px',pe'⟩,⟨ok',ox',oe'⟩⟩]) suf A2 c2 TT (by rfl) (by rfl) ?ho (.inr ⟨?hr,any_tri⟩) ?hb ?hs ?hl ?_;go_loud (case hl=>simp;omega);go_loud (case ho=>repeat (first | exact HO2.o | refine Kd.own_drew ?_ | refine Kd.own_alloc ?_ _));go_loud (case hr=>exact Kd.M_below HQ2.o (bel_step hB (by (repeat (first | assumption | exact bR _ _ | refine bel_alloc ?_ _ | refine bel_drew ?_)))));go_loud (case hb=>repeat (first | assumption | exact bR _ _ | refine bel_alloc ?_ _ | refine bel_drew ?_));go_loud (case hs=>have:=hb2.size;first | omega | (simp;omega));intro v3 w5 ho3 hb3 hg3 hv3;have HO3:=Zz ho3;clear ho3 hg3 hv3)
      | fail)
    all_goals (go_wp2_with fail;go_meet;exact ⟨HO3,Zz (bel_step hB hb3)⟩)
   case rest =>
    obtain ⟨HO,HB6⟩:=hcut
    obtain ⟨A9,c9,rfl,_,_⟩:=Kd.own_slice HO.o
    have HM9:=Zz (Kd.own_sl (ok':=TT) HO.o (fun _ _=>trivial) (fun _ _=>trivial))
    rw [← HPut.o] at HM9
    rw [← HPut.o]
    clear HO
    go_wp2
    go_ret
    exact ⟨_,_,rfl,HM9.o,HB6.o⟩
end SortW
namespace SortW
open Go.RowKit Go.Lib B Rd Utf TermPure LinesPure Tx Env Tri SortP Print Cmp Long
theorem putT_sub:∀ (l:List Triple) (t x:Triple),x ∈ putT l t → x = t ∨ x ∈ l
 | [],t,x,h=>by simpa [putT] using h
 | y :: l,t,x,h=>by
  rw [putT] at h
  split at h
  ·
   rcases List.mem_cons.1 h with h | h
   ·
    exact .inr (by simp [h])
   ·
    rcases putT_sub l t x h with h | h
    ·
     exact .inl h
    ·
     exact .inr (by simp [h])
  ·
   split at h
   ·
    exact .inr h
   ·
    rcases List.mem_cons.1 h with h | h
    ·
     exact .inl h
    ·
     exact .inr h
theorem putT_len:∀ (l:List Triple) (t:Triple),(putT l t).length ≤ l.length + 1
 | [],t=>by simp [putT]
 | y :: l,t=>by
  have:=putT_len l t
  rw [putT]
  split
  ·
   simp;omega
  ·
   split <;> simp
def accT (l:List Triple) (k:Nat):List Triple:=(l.take k).foldl putT []
theorem accT_step (l:List Triple) (k:Nat) (h:k < l.length):accT l (k + 1) = putT (accT l k) l[k]:=by
 unfold accT
 rw [List.take_succ_eq_append_getElem h,List.foldl_append]
 try rfl
theorem accT_sub (l:List Triple):∀ k,k ≤ l.length → ∀ x ∈ accT l k,x ∈ l
 | 0,_,x,h=>by simp [accT] at h
 | k + 1,hk,x,h=>by
  rw [accT_step l k (by omega)] at h
  rcases putT_sub _ _ _ h with h | h
  ·
   rw [h];exact List.getElem_mem _
  ·
   exact accT_sub l k (by omega) x h
theorem accT_len (l:List Triple):∀ k,k ≤ l.length → (accT l k).length ≤ k
 | 0,_=>by simp [accT]
 | k + 1,hk=>by
  rw [accT_step l k (by omega)]
  have:=putT_len (accT l k) (l[k]'(by omega))
  have:=accT_len l k (by omega)
  omega
theorem accT_all (l:List Triple):accT l l.length = sortT l:=by
 unfold accT sortT
 rw [List.take_length]
theorem refsort_calls (l:List Triple) (A:Option Addr) (c:Nat) (w:World) (HL:triK.sl.M w (fun k=>k < w.heap.size) l [.slice A l.length c]) (hs:∀ x ∈ l,SmallT x) (hb:l.length ≤ 1000000) :
  Calls Tryz.prog 21 #[.slice A l.length c] w fun e w'=>∃ A' c',e = .returned (.slice A' (sortT l).length c')∧triK.sl.M w' (fun k=>k < w'.heap.size) (sortT l) [.slice A' (sortT l).length c']∧Below w.heap.size w w':=by
 have HR:=Zz (row_cells HL)
 have HF:=Zz (row_fits HL)
 have HS:=Zz hs
 have h47:=sl_len HL
 clear HL hs
 go_enter Tryz.func21,Tryz.ntmps21
 go_wp2
 go_loopw [3,4] (fun v3 vi wr=>∃ (k:Nat) (acc:List Triple) (A3:Option Addr) (c3:Nat),vi = .int .i64 k∧v3 = .slice A3 acc.length c3∧k ≤ l.length∧Hid (acc = accT l k∧triK.sl.M wr TT acc [.slice A3 acc.length c3]∧Below w.heap.size w wr)) (fun _ vi _=>l.length - (intOf vi).toNat)
 case atStart=>exact ⟨0,[],none,0,rfl,rfl,by omega,Zz ⟨rfl,⟨none,0,rfl,lR _,⟨Nat.zero_le _,Nat.zero_le _⟩,fun _=>rfl,Kd.row_nil _ _ _ _⟩,bR _ _⟩⟩
 case round =>
  obtain ⟨k,acc,A3,c3,rfl,rfl,hkL,HI⟩:=hrel
  by_cases hlt:k < l.length
  ·
   have hd:decide (k < l.length) = true:=dT hlt
   have ik:(k:Int) < (l.length:Int):=by omega
   obtain ⟨b,off,rfl,hbs,hcells⟩:=HR.o k hlt
   have hcx:=(hcells k hlt).below HI.o.2.2
   obtain ⟨x,hx⟩:∃ x,x = l[k]:=⟨_,rfl⟩
   rw [← hx] at hcx
   have HC:=Zz (put_calls acc x A3 c3 wr (triK.sl.mono (fun k _ hk=>hk) HI.o.2.1) (fun y hy=>HS.o y (accT_sub l k hkL y (by rw [← HI.o.1];exact hy))) (by rw [hx];exact HS.o _ (List.getElem_mem hlt)) (by rw [hx];exact HF.o _ (List.getElem_mem hlt)) (by rw [HI.o.1];exact Nat.le_trans (accT_len l k hkL) (by omega)))
   have HAcc:Hid (putT acc x = accT l (k + 1)):=Zz (by rw [accT_step l k hlt,HI.o.1,hx])
   have HB:=Zz HI.o.2.2
   clear hcells hx HI
   obtain ⟨⟨sk,sx,se⟩,⟨pk,px,pe⟩,⟨ok,ox,oe⟩⟩:=x
   obtain ⟨x0,x1,x2,x3,x4,x5,x6,x7,x8⟩:=hcx
   dsimp only at x0 x1 x2 x3 x4 x5 x6 x7 x8
   unfold Ref5.tripleV at HC
   dsimp only at HC
   go_wp2_with fail
   refine HC.o.mono ?_
   rintro e w2 ⟨A4,c4,rfl,hM,hb2⟩
   have HN:=Zz (show _∧_∧_ from ⟨HAcc.o,hM,bel_step HB.o hb2⟩)
   clear HC hM hb2 HAcc HB
   go_wp2
   go_roundw
   case rel=>exact ⟨k + 1,_,_,_,by go_num,rfl,by omega,HN⟩
   case measure=>simp [intOf];omega
  ·
   have hd:decide (k < l.length) = false:=dF hlt
   obtain rfl:k = l.length:=by omega
   have HN:Hid (acc = sortT l):=Zz (by rw [HI.o.1,accT_all])
   have HM:Hid (triK.sl.M wr (fun k=>k < wr.heap.size) acc [.slice A3 acc.length c3]∧Below w.heap.size w wr):=Zz ⟨triK.sl.mono (fun k _ hk=>hk) HI.o.2.1,HI.o.2.2⟩
   clear HI
   go_wp2
   go_ret
   rw [← HN.o]
   exact ⟨_,_,rfl,HM.o.1,HM.o.2⟩
end SortW
namespace SortW
open Go.RowKit Go.Lib B Rd Utf TermPure LinesPure Tx Env Tri SortP Print Cmp Long
theorem run_ne_tri (x y:Triple) (w:World):(binOp .neq 36 (Ref5.tripleV x) (Ref5.tripleV y)).run Tryz.prog w = .ok (.bool (!decide (x = y))) w:=by
 have h:=TriEq.run_eq_tri x y w
 unfold Ref5.tripleV at *
 rw [run_eql_struct] at h
 rw [run_neq_struct]
 generalize (Op.equalIn 10000 36 _ _).run Tryz.prog w = r at *
 cases r with
 | ok b w' =>
  simp [Result.andThen] at h ⊢
  obtain ⟨h1,h2⟩:=h
  simp [h1,h2]
 | _=>simp [Result.andThen] at h
theorem same_calls (l m:List Triple) (A B:Option Addr) (c d:Nat) (w:World) (HL:triK.sl.M w (fun k=>k < w.heap.size) l [.slice A l.length c]) (HM:triK.sl.M w (fun k=>k < w.heap.size) m [.slice B m.length d]) :
  Calls Tryz.prog 30 #[.slice A l.length c,.slice B m.length d] w fun e w'=>e = .returned (.bool (decide (l = m)))∧Below w.heap.size w w':=by
 have HR:=Zz (row_cells HL)
 have HQ:=Zz (row_cells HM)
 have h47:=sl_len HL
 have h48:=sl_len HM
 clear HL HM
 by_cases hlen:l.length = m.length
 ·
  have hne:(l.length != m.length) = false:=by simp [hlen]
  have hne2:((l.length:Int) != (m.length:Int)) = false:=by simp [hlen]
  have HLen:=Zz hlen
  clear hlen
  go_enter Tryz.func30,Tryz.ntmps30
  go_wp2
  go_loopw [5] (fun vi wr=>∃ k:Nat,vi = .int .i64 k∧k ≤ l.length∧Hid (l.take k = m.take k∧Below w.heap.size w wr)) (fun vi _=>l.length - (intOf vi).toNat)
  case atStart=>exact ⟨0,rfl,by omega,Zz ⟨rfl,bR _ _⟩⟩
  case round =>
   obtain ⟨k,rfl,hkL,HI⟩:=hrel
   by_cases hlt:k < l.length
   ·
    have hd:decide (k < l.length) = true:=dT hlt
    have ik:(k:Int) < (l.length:Int):=by omega
    have hkm:k < m.length:=by rw [← HLen.o];exact hlt
    have ikm:(k:Int) < (m.length:Int):=by omega
    obtain ⟨b,off,rfl,hbs,hcells⟩:=HR.o k hlt
    obtain ⟨b2,off2,rfl,hbs2,hcells2⟩:=HQ.o k hkm
    have hcx:=(hcells k hlt).below HI.o.2
    have hcy:=(hcells2 k hkm).below HI.o.2
    obtain ⟨x,hx⟩:∃ x,x = l[k]:=⟨_,rfl⟩
    obtain ⟨y,hy⟩:∃ y,y = m[k]:=⟨_,rfl⟩
    rw [← hx] at hcx
    rw [← hy] at hcy
    have HNe:Hid (∀ w,(binOp .neq 36 (Ref5.tripleV x) (Ref5.tripleV y)).run Tryz.prog w = .ok (.bool (!decide (x = y))) w):=Zz (fun w=>run_ne_tri x y w)
    have HOk:Hid (x = y → l.take (k + 1) = m.take (k + 1)):=Zz (fun h=>by
     rw [List.take_succ_eq_append_getElem hlt,List.take_succ_eq_append_getElem hkm,HI.o.1,← hx,← hy,h])
    have HNo:Hid (x ≠ y → decide (l = m) = false):=Zz (fun h=>dF (fun h2=>h (by rw [hx,hy];subst h2;rfl)))
    have HB:=Zz HI.o.2
    clear hcells hcells2 hx hy HI
    by_cases hxy:x = y
    ·
     rw [dT hxy] at HNe
     have HN:=Zz (HOk.o hxy)
     clear hxy HOk HNo
     obtain ⟨⟨sk,sx,se⟩,⟨pk,px,pe⟩,⟨ok,ox,oe⟩⟩:=x
     obtain ⟨⟨sk',sx',se'⟩,⟨pk',px',pe'⟩,⟨ok',ox',oe'⟩⟩:=y
     obtain ⟨x0,x1,x2,x3,x4,x5,x6,x7,x8⟩:=hcx
     obtain ⟨y0,y1,y2,y3,y4,y5,y6,y7,y8⟩:=hcy
     dsimp only at x0 x1 x2 x3 x4 x5 x6 x7 x8 y0 y1 y2 y3 y4 y5 y6 y7 y8
     unfold Ref5.tripleV at HNe
     dsimp only at HNe
     have hnn:=HNe.o
     go_upto_region 6 with fail
     go_quiet (fail)
     have HB2:=Zz (bel_drewN HB.o 1)
     go_wp2
     go_roundw
     case rel=>exact ⟨k + 1,by go_num,by omega,Zz ⟨HN.o,bel_drewN HB.o _⟩⟩
     case measure=>simp [intOf];omega
    ·
     rw [dF hxy] at HNe
     have HN:=Zz (HNo.o hxy)
     clear hxy HOk HNo
     obtain ⟨⟨sk,sx,se⟩,⟨pk,px,pe⟩,⟨ok,ox,oe⟩⟩:=x
     obtain ⟨⟨sk',sx',se'⟩,⟨pk',px',pe'⟩,⟨ok',ox',oe'⟩⟩:=y
     obtain ⟨x0,x1,x2,x3,x4,x5,x6,x7,x8⟩:=hcx
     obtain ⟨y0,y1,y2,y3,y4,y5,y6,y7,y8⟩:=hcy
     dsimp only at x0 x1 x2 x3 x4 x5 x6 x7 x8 y0 y1 y2 y3 y4 y5 y6 y7 y8
     unfold Ref5.tripleV at HNe
     dsimp only at HNe
     have hnn:=HNe.o
     go_upto_region 6 with fail
     go_quiet (fail)
     go_wp2
     go_ret
     exact ⟨by rw [HN.o];rfl,bel_drewN HB.o _⟩
   ·
    have hd:decide (k < l.length) = false:=dF hlt
    have HN:Hid (decide (l = m) = true):=Zz (dT (by
     have:=HI.o.1
     rwa [List.take_of_length_le (by omega),List.take_of_length_le (by rw [← HLen.o];omega)] at this))
    have HB:=Zz HI.o.2
    clear HI
    go_wp2
    go_ret
    exact ⟨by rw [HN.o];rfl,HB.o⟩
 ·
  have hne:(l.length != m.length) = true:=by simp [hlen]
  have hne2:((l.length:Int) != (m.length:Int)) = true:=by simp;omega
  have HN:Hid (decide (l = m) = false):=Zz (dF (fun h=>hlen (by rw [h])))
  clear hlen
  go_enter Tryz.func30,Tryz.ntmps30
  go_wp2
  go_ret
  exact ⟨by rw [HN.o];rfl,bR _ _⟩
end SortW
namespace FrontP
def shared:List UInt8 → List UInt8 → Nat
 | a :: l,b :: m=>if a = b then shared l m + 1 else 0
 | _,_=>0
theorem shared_left:∀ a b:List UInt8,shared a b ≤ a.length
 | [],_=>by simp [shared]
 | a :: l,[]=>by simp [shared]
 | a :: l,b :: m=>by
  have:=shared_left l m
  rw [shared]
  split <;> simp <;> omega
theorem shared_right:∀ a b:List UInt8,shared a b ≤ b.length
 | [],_=>by simp [shared]
 | a :: l,[]=>by simp [shared]
 | a :: l,b :: m=>by
  have:=shared_right l m
  rw [shared]
  split <;> simp <;> omega
theorem shared_take:∀ a b:List UInt8,a.take (shared a b) = b.take (shared a b)
 | [],b=>by simp [shared]
 | a :: l,[]=>by simp [shared]
 | a :: l,b :: m=>by
  have:=shared_take l m
  rw [shared]
  split
  ·
   rename_i h
   rw [List.take_succ_cons,List.take_succ_cons,this,h]
  ·
   simp
theorem shared_at:∀ (a b:List UInt8) (n:Nat),n ≤ a.length → n ≤ b.length → a.take n = b.take n → (∀ (h:n < a.length) (h':n < b.length),a[n] ≠ b[n]) → shared a b = n
 | [],b,n,h,_,_,_=>by simp at h;subst h;simp [shared]
 | a :: l,[],n,_,h,_,_=>by simp at h;subst h;simp [shared]
 | a :: l,b :: m,0,_,_,_,hne=>by
  have:=hne (by simp) (by simp)
  simp at this
  rw [shared,if_neg this]
 | a :: l,b :: m,n + 1,h1,h2,he,hne=>by
  rw [List.take_succ_cons,List.take_succ_cons] at he
  injection he with e1 e2
  rw [shared,if_pos e1,shared_at l m n (by simpa using h1) (by simpa using h2) e2 (fun h h'=>by have:=hne (by simp;omega) (by simp;omega);rw [List.getElem_cons_succ,List.getElem_cons_succ] at this;exact this)]
def outN (l:List (List UInt8)) (i:Nat):Nat:=if i % 4 = 0 then 0 else shared (l.getD (i - 1) []) (l.getD i [])
def piece (l:List (List UInt8)) (i:Nat):List UInt8:=UInt8.ofNat (outN l i) :: UInt8.ofNat ((l.getD i []).length - outN l i) :: (l.getD i []).drop (outN l i)
def upTo (l:List (List UInt8)) (k:Nat):List UInt8:=(List.range k).flatMap (piece l)
def headN (n:Nat):List UInt8:=[UInt8.ofNat (n / 256),UInt8.ofNat (n % 256)]
def frontB (l:List (List UInt8)):List UInt8:=headN l.length ++ upTo l l.length
theorem upTo_succ (l:List (List UInt8)) (k:Nat):upTo l (k + 1) = upTo l k ++ piece l k:=by
 unfold upTo
 rw [List.range_succ,List.flatMap_append]
 simp
theorem outN_le (l:List (List UInt8)) (i:Nat):outN l i ≤ (l.getD i []).length:=by
 unfold outN
 split
 ·
  omega
 ·
  exact shared_right _ _
theorem piece_len (l:List (List UInt8)) (i:Nat):(piece l i).length ≤ 2 + (l.getD i []).length:=by
 unfold piece
 simp
 omega
theorem upTo_len {l:List (List UInt8)} {b:Nat} (h:∀ x ∈ l,x.length ≤ b):∀ k,k ≤ l.length → (upTo l k).length ≤ k * (b + 2)
 | 0,_=>by simp [upTo]
 | k + 1,hk=>by
  have h1:=upTo_len h k (by omega)
  have h2:=piece_len l k
  have h3:(l.getD k []).length ≤ b:=by
   rw [List.getD_eq_getElem?_getD,List.getElem?_eq_getElem (by omega)]
   exact h _ (List.getElem_mem _)
  rw [upTo_succ,List.length_append,Nat.succ_mul]
  omega
theorem byte_inj {a b:Nat} (ha:a < 256) (hb:b < 256) (h:UInt8.ofNat a = UInt8.ofNat b):a = b:=by
 have:=congrArg UInt8.toNat h
 simp at this
 omega
theorem head_inj {a b:Nat} (ha:a < 65536) (hb:b < 65536) (h:headN a = headN b):a = b:=by
 unfold headN at h
 injection h with h1 h2
 injection h2 with h2 _
 have:=byte_inj (by omega) (by omega) h1
 have:=byte_inj (by omega) (by omega) h2
 omega
def from' (l:List (List UInt8)) (k n:Nat):List UInt8:=(List.range' k n).flatMap (piece l)
theorem from_inj (l m:List (List UInt8)) (hl:∀ x ∈ l,x.length < 256) (hm:∀ x ∈ m,x.length < 256) (hlen:l.length = m.length) :
  ∀ (n k:Nat),k + n = l.length → l.take k = m.take k → from' l k n = from' m k n → l = m
 | 0,k,hk,ht,_=>by
  rw [List.take_of_length_le (by omega),List.take_of_length_le (by omega)] at ht
  exact ht
 | n + 1,k,hk,ht,he=>by
  unfold from' at he
  rw [List.range'_succ,List.flatMap_cons,List.flatMap_cons] at he
  have hkl:k < l.length:=by omega
  have hkm:k < m.length:=by omega
  have gl:l.getD k [] = l[k]:=by rw [List.getD_eq_getElem?_getD,List.getElem?_eq_getElem hkl];rfl
  have gm:m.getD k [] = m[k]:=by rw [List.getD_eq_getElem?_getD,List.getElem?_eq_getElem hkm];rfl
  have bl:=hl _ (List.getElem_mem hkl)
  have bm:=hm _ (List.getElem_mem hkm)
  have ol:=outN_le l k
  have om:=outN_le m k
  have hprev:l.getD (k - 1) [] = m.getD (k - 1) [] ∨ k = 0:=by
   by_cases h0:k = 0
   ·
    exact .inr h0
   ·
    left
    have e1:l[k - 1]? = m[k - 1]?:=by
     have h1:(l.take k)[k - 1]? = (m.take k)[k - 1]?:=by rw [ht]
     rwa [List.getElem?_take_of_lt (by omega),List.getElem?_take_of_lt (by omega)] at h1
    rw [List.getD_eq_getElem?_getD,List.getD_eq_getElem?_getD,e1]
  rw [gl] at ol
  rw [gm] at om
  have key:l[k] = m[k]∧(List.range' (k + 1) n).flatMap (piece l) = (List.range' (k + 1) n).flatMap (piece m):=by
   unfold piece at he
   simp only [List.cons_append] at he
   injection he with e1 he
   injection he with e2 he
   rw [gl,gm] at e2 he
   have n1:=byte_inj (by omega) (by omega) e1
   have n2:=byte_inj (by omega) (by omega) e2
   have hdl:(l[k].drop (outN l k)).length = (m[k].drop (outN m k)).length:=by simp;omega
   obtain ⟨e3,e4⟩:=List.append_inj he hdl
   refine ⟨?_,e4⟩
   rw [n1] at e3
   rw [← List.take_append_drop (outN m k) l[k],← List.take_append_drop (outN m k) m[k],e3]
   congr 1
   by_cases h4:k % 4 = 0
   ·
    have:outN m k = 0:=by unfold outN;rw [if_pos h4]
    rw [this]
    simp
   ·
    have hk0:k ≠ 0:=fun h=>h4 (by rw [h])
    have hp:=hprev.resolve_right hk0
    have s1:=shared_take (l.getD (k - 1) []) (l.getD k [])
    have s2:=shared_take (m.getD (k - 1) []) (m.getD k [])
    have o1:outN l k = shared (l.getD (k - 1) []) (l.getD k []):=by unfold outN;rw [if_neg h4]
    have o2:outN m k = shared (m.getD (k - 1) []) (m.getD k []):=by unfold outN;rw [if_neg h4]
    rw [← o1,n1,gl] at s1
    rw [← o2,gm] at s2
    rw [← s1,← s2,hp]
  refine from_inj l m hl hm hlen n (k + 1) (by omega) ?_ key.2
  rw [List.take_succ_eq_append_getElem hkl,List.take_succ_eq_append_getElem hkm,ht,key.1]
theorem frontB_inj {l m:List (List UInt8)} (hl:∀ x ∈ l,x.length < 256) (hm:∀ x ∈ m,x.length < 256) (h1:l.length < 65536) (h2:m.length < 65536) (h:frontB l = frontB m):l = m:=by
 unfold frontB at h
 obtain ⟨e1,e2⟩:=List.append_inj h (by simp [headN])
 have hlen:=head_inj h1 h2 e1
 refine from_inj l m hl hm hlen l.length 0 (by omega) rfl ?_
 unfold from'
 unfold upTo at e2
 rw [List.range_eq_range',List.range_eq_range',← hlen] at e2
 exact e2
end FrontP
namespace PackP
open PackW
def bitB (b:List UInt8) (j:Nat):Bool:=(b[j / 8]?.getD 0).toNat.testBit (j % 8)
theorem bitAt_eq (n k:Nat):bitAt n k = (n.testBit k).toNat:=by
 unfold bitAt
 rw [Nat.toNat_testBit]
theorem bit_orAt (b:List UInt8) (a j:Nat) (v:Bool) (ha:a / 8 < b.length):bitB (orAt b a v.toNat) j = (bitB b j || (decide (j = a) && v)):=by
 unfold bitB orAt
 by_cases hq:j / 8 = a / 8
 ·
  rw [hq,List.getElem?_set_self ha]
  simp only [Option.getD_some]
  rw [UInt8.toNat_or,Nat.testBit_or]
  congr 1
  have hm:a % 8 < 8:=Nat.mod_lt _ (by decide)
  cases v
  ·
   simp
  ·
   have h2:(2:Nat) ^ (a % 8) < 256:=by
    have:(2:Nat) ^ (a % 8) ≤ 2 ^ 7:=Nat.pow_le_pow_right (by decide) (by omega)
    omega
   rw [show true.toNat * 2 ^ (a % 8) = 2 ^ (a % 8) by simp,UInt8.toNat_ofNat',Nat.mod_eq_of_lt (by omega),Nat.testBit_two_pow,Bool.and_true]
   by_cases e:j = a
   ·
    subst e;simp
   ·
    rw [dF e,dF (by omega)]
 ·
  rw [List.getElem?_set_ne (fun h=>hq h.symm)]
  have:¬ j = a:=fun h=>hq (by rw [h])
  rw [dF this]
  simp
theorem bit_num (b:List UInt8) (f n:Nat):∀ k,f + k ≤ 8 * b.length → ∀ j,bitB (packNum b f n k) j = (bitB b j || (decide (f ≤ j) && (decide (j < f + k) && n.testBit (j - f))))
 | 0,_,j=>by
  have h:(decide (f ≤ j) && (decide (j < f + 0) && n.testBit (j - f))) = false:=by
   by_cases h1:f ≤ j
   ·
    rw [dF (show ¬ j < f + 0 by omega)];simp
   ·
    rw [dF h1];simp
  rw [packNum,h,Bool.or_false]
 | k + 1,hk,j=>by
  rw [packNum,bitAt_eq,bit_orAt _ _ _ _ (by rw [packNum_len];omega),bit_num b f n k (by omega) j]
  by_cases e:j = f + k
  ·
   subst e
   rw [dT (show f ≤ f + k by omega),dF (show ¬ f + k < f + k by omega),dT (show f + k < f + (k + 1) by omega),show f + k - f = k by omega]
   simp
  ·
   rw [dF e]
   by_cases h1:j < f + k
   ·
    rw [dT h1,dT (show j < f + (k + 1) by omega)];simp
   ·
    rw [dF h1,dF (show ¬ j < f + (k + 1) by omega)];simp
theorem bit_F (l:List Nat) (wd:Nat) (hw:0 < wd):∀ i,i ≤ l.length → ∀ j,bitB (packF l wd i) j = (decide (j < i * wd) && (l[j / wd]?.getD 0).testBit (j % wd))
 | 0,_,j=>by
  have:bitB (packF l wd 0) j = false:=by
   unfold bitB packF
   rw [List.getElem?_replicate]
   split <;> simp
  rw [this]
  simp
 | i + 1,hi,j=>by
  have hle:i * wd + wd ≤ l.length * wd:=by
   have:=Nat.mul_le_mul_right wd hi
   rwa [Nat.succ_mul] at this
  rw [packF,bit_num _ _ _ _ (by rw [packF_len];omega),bit_F l wd hw i (by omega) j,Nat.succ_mul]
  by_cases h1:j < i * wd
  ·
   rw [dT h1,dF (show ¬ i * wd ≤ j by omega),dT (show j < i * wd + wd by omega)]
   simp
  ·
   rw [dF h1,dT (show i * wd ≤ j by omega)]
   by_cases h2:j < i * wd + wd
   ·
    rw [dT h2]
    have hdiv:j / wd = i:=by
     apply Nat.div_eq_of_lt_le
     ·
      omega
     ·
      rw [Nat.succ_mul];omega
    have hmod:j % wd = j - i * wd:=by
     have:=Nat.div_add_mod j wd
     rw [hdiv,Nat.mul_comm] at this
     omega
    rw [hdiv,hmod]
    simp
   ·
    rw [dF h2]
    simp
theorem bit_at (l:List Nat) (wd:Nat) (hw:0 < wd) (i k:Nat) (hi:i < l.length) (hk:k < wd):bitB (packB l wd) (i * wd + k) = l[i].testBit k:=by
 unfold packB
 have hle:i * wd + wd ≤ l.length * wd:=by
  have:=Nat.mul_le_mul_right wd (show i + 1 ≤ l.length by omega)
  rwa [Nat.succ_mul] at this
 rw [bit_F l wd hw _ (lR _),dT (by omega)]
 have hdiv:(i * wd + k) / wd = i:=by
  apply Nat.div_eq_of_lt_le
  ·
   omega
  ·
   rw [Nat.succ_mul];omega
 have hmod:(i * wd + k) % wd = k:=by
  rw [Nat.mul_comm,Nat.mul_add_mod,Nat.mod_eq_of_lt hk]
 rw [hdiv,hmod,List.getElem?_eq_getElem hi]
 simp
theorem packB_inj {l m:List Nat} {wd:Nat} (hlen:l.length = m.length) (hl:∀ n ∈ l,n < 2 ^ wd) (hm:∀ n ∈ m,n < 2 ^ wd) (h:packB l wd = packB m wd):l = m:=by
 refine List.ext_getElem hlen fun i h1 h2=>?_
 have bl:=hl _ (List.getElem_mem h1)
 have bm:=hm _ (List.getElem_mem h2)
 by_cases hw:0 < wd
 ·
  refine Nat.eq_of_testBit_eq fun k=>?_
  by_cases hk:k < wd
  ·
   rw [← bit_at l wd hw i k h1 hk,← bit_at m wd hw i k h2 hk,h]
  ·
   rw [Nat.testBit_lt_two_pow (Nat.lt_of_lt_of_le bl (Nat.pow_le_pow_right (by decide) (by omega))),Nat.testBit_lt_two_pow (Nat.lt_of_lt_of_le bm (Nat.pow_le_pow_right (by decide) (by omega)))]
 ·
  obtain rfl:wd = 0:=by omega
  simp at bl bm
  omega
theorem packB_len (l:List Nat) (wd:Nat):(packB l wd).length = (l.length * wd + 7) / 8:=packF_len l wd _
end PackP
namespace CrcPure
def sh (x:Nat):Nat:=if 16777216 ≤ 2 * x then (2 * x) ^^^ 25578747 else 2 * x
def shN:Nat → Nat → Nat
 | 0,x=>x
 | k + 1,x=>shN k (sh x)
def cstep (x:Nat) (c:UInt8):Nat:=shN 8 (x ^^^ (c.toNat * 65536))
theorem cstep_eq (x:Nat) (c:UInt8):cstep x c = shN 8 (x ^^^ (c.toNat * 65536)):=rfl
theorem shN_succ (k x:Nat):shN (k + 1) x = shN k (sh x):=rfl
theorem shN_zero (x:Nat):shN 0 x = x:=rfl
attribute [irreducible] shN cstep
def sumFrom:Nat → List UInt8 → Nat
 | x,[]=>x
 | x,c :: l=>sumFrom (cstep x c) l
theorem sumFrom_nil (x:Nat):sumFrom x [] = x:=rfl
theorem sumFrom_cons (x:Nat) (c:UInt8) (l:List UInt8):sumFrom x (c :: l) = sumFrom (cstep x c) l:=rfl
def init:Nat:=11994318
theorem init_lt:init < 16777216:=by unfold init;omega
def crc (l:List UInt8):Nat:=sumFrom init l
theorem xor_lt24 {a b:Nat} (ha:a < 16777216) (hb:b < 16777216):a ^^^ b < 16777216:=by
 have h:=Nat.xor_lt_two_pow (x:=a) (y:=b) (n:=24) (by omega) (by omega)
 omega
theorem xor_lt25 {a b:Nat} (ha:a < 33554432) (hb:b < 33554432):a ^^^ b < 33554432:=by
 have h:=Nat.xor_lt_two_pow (x:=a) (y:=b) (n:=25) (by omega) (by omega)
 omega
theorem testBit_high {x:Nat} (h1:16777216 ≤ x) (h2:x < 33554432):x.testBit 24 = true:=by
 rw [Nat.testBit_eq_decide_div_mod_eq]
 simp only [decide_eq_true_eq]
 have:x / 2 ^ 24 = 1:=by omega
 rw [this]
theorem testBit_low {x:Nat} (h:x < 16777216):x.testBit 24 = false:=Nat.testBit_lt_two_pow (by omega)
theorem sh_lt {x:Nat} (h:x < 16777216):sh x < 16777216:=by
 unfold sh
 split
 ·
  rename_i h1
  have hx:2 * x ^^^ 25578747 < 33554432:=xor_lt25 (by omega) (by omega)
  refine Nat.lt_of_not_le fun hge=>?_
  have e:=testBit_high hge hx
  rw [Nat.testBit_xor,testBit_high h1 (by omega),testBit_high (x:=25578747) (by omega) (by omega)] at e
  cases e
 ·
  omega
theorem shN_lt (k:Nat):∀ {x:Nat},x < 16777216 → shN k x < 16777216:=by
 induction k with
 | zero=>intro x h;rw [shN_zero];exact h
 | succ k ih=>intro x h;rw [shN_succ];exact ih (sh_lt h)
theorem byte_lt (c:UInt8):c.toNat * 65536 < 16777216:=by
 have:=c.toNat_lt
 omega
theorem in_lt {x:Nat} (h:x < 16777216) (c:UInt8):x ^^^ (c.toNat * 65536) < 16777216:=xor_lt24 h (byte_lt c)
theorem cstep_lt {x:Nat} (h:x < 16777216) (c:UInt8):cstep x c < 16777216:=by rw [cstep_eq];exact shN_lt 8 (in_lt h c)
theorem sumFrom_lt (l:List UInt8):∀ {x:Nat},x < 16777216 → sumFrom x l < 16777216:=by
 induction l with
 | nil=>intro x h;rw [sumFrom_nil];exact h
 | cons c l ih=>intro x h;rw [sumFrom_cons];exact ih (cstep_lt h c)
theorem crc_lt (l:List UInt8):crc l < 16777216:=sumFrom_lt l init_lt
theorem sumFrom_append (a b:List UInt8):∀ x:Nat,sumFrom x (a ++ b) = sumFrom (sumFrom x a) b:=by
 induction a with
 | nil=>intro x;rfl
 | cons c a ih=>intro x;rw [List.cons_append,sumFrom_cons,sumFrom_cons,ih]
theorem sumFrom_snoc (a:List UInt8) (c:UInt8) (x:Nat):sumFrom x (a ++ [c]) = cstep (sumFrom x a) c:=by rw [sumFrom_append,sumFrom_cons,sumFrom_nil]
theorem two_xor (a b:Nat):2 * (a ^^^ b) = 2 * a ^^^ 2 * b:=by
 have e:∀ n:Nat,2 * n = n <<< 1:=fun n=>by rw [Nat.shiftLeft_eq];omega
 rw [e,e,e,Nat.shiftLeft_xor_distrib]
theorem high_xor {a b:Nat} (ha:a < 33554432) (hb:b < 33554432):16777216 ≤ a ^^^ b ↔ ¬ (16777216 ≤ a ↔ 16777216 ≤ b):=by
 have hx:a ^^^ b < 33554432:=xor_lt25 ha hb
 have key:∀ n:Nat,n < 33554432 → (16777216 ≤ n ↔ n.testBit 24 = true):=by
  intro n hn
  constructor
  ·
   intro h;exact testBit_high h hn
  ·
   intro h
   refine Nat.le_of_not_lt fun hlt=>?_
   rw [testBit_low hlt] at h
   cases h
 rw [key _ hx,key _ ha,key _ hb,Nat.testBit_xor]
 cases a.testBit 24 <;> cases b.testBit 24 <;> simp
theorem sh_xor {a b:Nat} (ha:a < 16777216) (hb:b < 16777216):sh (a ^^^ b) = sh a ^^^ sh b:=by
 unfold sh
 rw [two_xor]
 have h:=high_xor (a:=2 * a) (b:=2 * b) (by omega) (by omega)
 by_cases h1:16777216 ≤ 2 * a <;> by_cases h2:16777216 ≤ 2 * b
 ·
  rw [if_neg (by rw [h];simp [h1,h2]),if_pos h1,if_pos h2]
  rw [Nat.xor_assoc,← Nat.xor_assoc 25578747,Nat.xor_comm 25578747,Nat.xor_assoc,Nat.xor_self,Nat.xor_zero]
 ·
  rw [if_pos (by rw [h];simp [h1,h2]),if_pos h1,if_neg h2]
  rw [Nat.xor_assoc,Nat.xor_assoc,Nat.xor_comm (2 * b)]
 ·
  rw [if_pos (by rw [h];simp [h1,h2]),if_neg h1,if_pos h2,Nat.xor_assoc]
 ·
  rw [if_neg (by rw [h];simp [h1,h2]),if_neg h1,if_neg h2]
theorem sh_zero {x:Nat} (h:sh x = 0):x = 0:=by
 unfold sh at h
 split at h
 ·
  have:=congrArg (fun n=>n.testBit 0) h
  simp [Nat.testBit_zero] at this
 ·
  omega
theorem xor_eq_zero {a b:Nat} (h:a ^^^ b = 0):a = b:=by
 apply Nat.eq_of_testBit_eq
 intro i
 have:=congrArg (fun n=>n.testBit i) h
 simp [Nat.testBit_xor] at this
 exact this
theorem sh_inj {a b:Nat} (ha:a < 16777216) (hb:b < 16777216) (h:sh a = sh b):a = b:=by
 apply xor_eq_zero
 apply sh_zero
 rw [sh_xor ha hb,h,Nat.xor_self]
theorem shN_inj (k:Nat):∀ {a b:Nat},a < 16777216 → b < 16777216 → shN k a = shN k b → a = b:=by
 induction k with
 | zero=>intro a b _ _ h;rw [shN_zero,shN_zero] at h;exact h
 | succ k ih=>intro a b ha hb h;rw [shN_succ,shN_succ] at h;exact sh_inj ha hb (ih (sh_lt ha) (sh_lt hb) h)
theorem xor_left_inj' {a b c:Nat} (h:a ^^^ c = b ^^^ c):a = b:=by
 have:=congrArg (· ^^^ c) h
 simpa [Nat.xor_assoc] using this
theorem xor_right_inj' {a b c:Nat} (h:c ^^^ a = c ^^^ b):a = b:=by
 rw [Nat.xor_comm c a,Nat.xor_comm c b] at h
 exact xor_left_inj' h
theorem cstep_inj_left {x y:Nat} (hx:x < 16777216) (hy:y < 16777216) {c:UInt8} (h:cstep x c = cstep y c):x = y:=by
 rw [cstep_eq,cstep_eq] at h
 exact xor_left_inj' (shN_inj 8 (in_lt hx c) (in_lt hy c) h)
theorem cstep_inj_right {x:Nat} (hx:x < 16777216) {c d:UInt8} (h:cstep x c = cstep x d):c = d:=by
 rw [cstep_eq,cstep_eq] at h
 have h1:=xor_right_inj' (shN_inj 8 (in_lt hx c) (in_lt hx d) h)
 apply UInt8.toNat_inj.1
 omega
theorem sumFrom_inj (l:List UInt8):∀ {x y:Nat},x < 16777216 → y < 16777216 → sumFrom x l = sumFrom y l → x = y:=by
 induction l with
 | nil=>intro x y _ _ h;rw [sumFrom_nil,sumFrom_nil] at h;exact h
 | cons c l ih=>intro x y hx hy h;rw [sumFrom_cons,sumFrom_cons] at h;exact cstep_inj_left hx hy (ih (cstep_lt hx c) (cstep_lt hy c) h)
theorem crc_turned (a b:List UInt8) (c d:UInt8) (h:crc (a ++ c :: b) = crc (a ++ d :: b)):c = d:=by
 unfold crc at h
 rw [sumFrom_append,sumFrom_append,sumFrom_cons,sumFrom_cons] at h
 have h0:=sumFrom_lt a init_lt
 exact cstep_inj_right h0 (sumFrom_inj b (cstep_lt h0 c) (cstep_lt h0 d) h)
theorem crc_set (l:List UInt8) (i:Nat) (hi:i < l.length) (d:UInt8) (h:crc (l.set i d) = crc l):d = l[i]:=by
 have e1:l.set i d = l.take i ++ d :: l.drop (i + 1):=List.set_eq_take_append_cons_drop .. |>.trans (by rw [if_pos hi])
 have e2:l = l.take i ++ l[i] :: l.drop (i + 1):=by
  rw [← List.drop_eq_getElem_cons hi,List.take_append_drop]
 rw [e1] at h
 exact crc_turned _ _ _ _ (h.trans (congrArg crc e2))
def three (n:Nat):List UInt8:=[UInt8.ofNat (n / 65536),UInt8.ofNat (n / 256),UInt8.ofNat n]
end CrcPure
namespace BoxPure
open CrcPure
abbrev Sec:=Int × List UInt8
def rising:Int → List Sec → Bool
 | _,[]=>true
 | last,x :: l=>decide (last < x.1) && (decide (x.1 ≤ 255) && rising x.1 l)
def total:List Sec → Nat
 | []=>0
 | x :: l=>x.2.length + total l
def May (l:List Sec):Prop:=l.length ≤ 8∧rising 0 l = true∧9 + 7 * l.length + total l ≤ 100000
instance (l:List Sec):Decidable (May l):=by unfold May;exact inferInstance
def idB (n:Int):UInt8:=UInt8.ofNat (n % 256).toNat
def head1 (x:Sec):List UInt8:=idB x.1 :: (three x.2.length ++ three (crc x.2))
def heads:List Sec → List UInt8
 | []=>[]
 | x :: l=>head1 x ++ heads l
def bodies:List Sec → List UInt8
 | []=>[]
 | x :: l=>x.2 ++ bodies l
def title:List UInt8:=[84,82,73,86,1]
def header (l:List Sec):List UInt8:=title ++ (UInt8.ofNat l.length :: heads l)
def file (l:List Sec):List UInt8:=header l ++ three (crc (header l)) ++ bodies l
theorem three_length (n:Nat):(three n).length = 3:=rfl
theorem head1_length (x:Sec):(head1 x).length = 7:=by simp [head1,three_length]
theorem heads_length:∀ l:List Sec,(heads l).length = 7 * l.length
 | []=>rfl
 | x :: l=>by simp only [heads,List.length_append,head1_length,heads_length l,List.length_cons];omega
theorem bodies_length:∀ l:List Sec,(bodies l).length = total l
 | []=>rfl
 | x :: l=>by simp only [bodies,List.length_append,bodies_length l,total]
theorem header_length (l:List Sec):(header l).length = 6 + 7 * l.length:=by
 simp only [header,title,List.length_append,List.length_cons,List.length_nil,heads_length];omega
theorem file_length (l:List Sec):(file l).length = 9 + 7 * l.length + total l:=by
 simp only [file,List.length_append,header_length,three_length,bodies_length];omega
theorem heads_append (a b:List Sec):heads (a ++ b) = heads a ++ heads b:=by
 induction a with
 | nil=>rfl
 | cons x a ih=>rw [List.cons_append,heads,heads,ih,List.append_assoc]
theorem bodies_append (a b:List Sec):bodies (a ++ b) = bodies a ++ bodies b:=by
 induction a with
 | nil=>rfl
 | cons x a ih=>rw [List.cons_append,bodies,bodies,ih,List.append_assoc]
theorem total_append (a b:List Sec):total (a ++ b) = total a + total b:=by
 induction a with
 | nil=>simp [total]
 | cons x a ih=>rw [List.cons_append,total,total,ih];omega
def lastID:Int → List Sec → Int
 | n,[]=>n
 | _,x :: l=>lastID x.1 l
theorem rising_snoc (x:Sec):∀ (l:List Sec) (n:Int),rising n (l ++ [x]) = (rising n l && (decide (lastID n l < x.1) && decide (x.1 ≤ 255)))
 | [],n=>by rw [List.nil_append,rising,rising,rising,lastID,Bool.and_true,Bool.true_and]
 | y :: l,n=>by
  rw [List.cons_append,rising,rising,rising_snoc x l,lastID]
  simp only [Bool.and_assoc]
theorem rising_append_left:∀ (a b:List Sec) (n:Int),rising n (a ++ b) = true → rising n a = true
 | [],_,_,_=>rfl
 | y :: a,b,n,h=>by
  rw [List.cons_append,rising,Bool.and_eq_true,Bool.and_eq_true] at h
  rw [rising,h.1,h.2.1,rising_append_left a b _ h.2.2]
  try rfl
theorem lastID_snoc (x:Sec):∀ (l:List Sec) (n:Int),lastID n (l ++ [x]) = x.1
 | [],_=>rfl
 | y :: l,n=>by rw [List.cons_append,lastID,lastID_snoc x l]
theorem id_range:∀ (l:List Sec) (n:Int),rising n l = true → ∀ x ∈ l,n < x.1∧x.1 ≤ 255
 | [],_,_,_,hx=>by cases hx
 | y :: l,n,h,x,hx=>by
  rw [rising,Bool.and_eq_true,Bool.and_eq_true,decide_eq_true_eq,decide_eq_true_eq] at h
  rcases List.mem_cons.1 hx with rfl | hx
  ·
   exact ⟨h.1,h.2.1⟩
  ·
   have:=id_range l _ h.2.2 x hx
   omega
theorem take_snoc {α:Type} (l:List α) (k:Nat) (h:k < l.length):l.take (k + 1) = l.take k ++ [l[k]]:=List.take_succ_eq_append_getElem h
theorem total_snoc (l:List Sec) (k:Nat) (h:k < l.length):total (l.take (k + 1)) = total (l.take k) + l[k].2.length:=by
 rw [take_snoc l k h,total_append];simp [total]
theorem heads_snoc (l:List Sec) (k:Nat) (h:k < l.length):heads (l.take (k + 1)) = heads (l.take k) ++ head1 l[k]:=by
 rw [take_snoc l k h,heads_append];simp [heads]
theorem bodies_snoc (l:List Sec) (k:Nat) (h:k < l.length):bodies (l.take (k + 1)) = bodies (l.take k) ++ l[k].2:=by
 rw [take_snoc l k h,bodies_append];simp [bodies]
theorem rising_snoc' (l:List Sec) (k:Nat) (h:k < l.length) (n:Int):rising n (l.take (k + 1)) = (rising n (l.take k) && (decide (lastID n (l.take k) < l[k].1) && decide (l[k].1 ≤ 255))):=by
 rw [take_snoc l k h,rising_snoc]
theorem lastID_snoc' (l:List Sec) (k:Nat) (h:k < l.length) (n:Int):lastID n (l.take (k + 1)) = l[k].1:=by
 rw [take_snoc l k h,lastID_snoc]
theorem total_take (l:List Sec) (k:Nat):total (l.take k) ≤ total l:=by
 conv=>rhs;rw [← List.take_append_drop k l,total_append]
 omega
theorem rising_take (l:List Sec) (k:Nat) (n:Int) (h:rising n l = true):rising n (l.take k) = true:=by
 rw [← List.take_append_drop k l] at h
 exact rising_append_left _ _ _ h
theorem lastID_ge:∀ (l:List Sec) (n:Int),rising n l = true → n ≤ lastID n l
 | [],n,_=>Int.le_refl n
 | y :: l,n,h=>by
  rw [rising,Bool.and_eq_true,Bool.and_eq_true,decide_eq_true_eq] at h
  have:=lastID_ge l y.1 h.2.2
  rw [lastID]
  omega
def num (h:List UInt8):Nat:=(h.getD 0 0).toNat * 65536 + (h.getD 1 0).toNat * 256 + (h.getD 2 0).toNat
theorem num_lt (h:List UInt8):num h < 16777216:=by
 unfold num
 have h0:=(h.getD 0 0).toNat_lt
 have h1:=(h.getD 1 0).toNat_lt
 have h2:=(h.getD 2 0).toNat_lt
 omega
theorem num_three (n:Nat) (hn:n < 16777216) (z:List UInt8):num (three n ++ z) = n:=by
 unfold num three
 simp only [List.cons_append,List.getD_cons_zero,List.getD_cons_succ,UInt8.toNat_ofNat']
 omega
theorem three_inj {a b:Nat} (ha:a < 16777216) (hb:b < 16777216) (h:three a = three b):a = b:=by
 have:=num_three a ha []
 rw [h,num_three b hb []] at this
 exact this.symm
def secs:Nat → List UInt8 → List UInt8 → Option (List Sec)
 | 0,_,_=>some []
 | n + 1,h,b =>
  if b.length < num (h.drop 1) then none
  else (secs n (h.drop 7) (b.drop (num (h.drop 1)))).map fun l=>(((h.getD 0 0).toNat:Int),b.take (num (h.drop 1))) :: l
theorem idB_val {n:Int} (h1:0 ≤ n) (h2:n ≤ 255):((idB n).toNat:Int) = n:=by
 unfold idB
 rw [UInt8.toNat_ofNat']
 omega
theorem secs_back:∀ (l:List Sec) (n:Int),0 ≤ n → rising n l = true → total l < 16777216 → ∀ z z':List UInt8,secs l.length (heads l ++ z) (bodies l ++ z') = some l
 | [],_,_,_,_,_,_=>rfl
 | x :: l,n,hn,hr,ht,z,z'=>by
  rw [rising,Bool.and_eq_true,Bool.and_eq_true,decide_eq_true_eq,decide_eq_true_eq] at hr
  rw [total] at ht
  have ih:=secs_back l x.1 (by omega) hr.2.2 (by omega) z z'
  have e1:(heads (x :: l) ++ z).drop 1 = three x.2.length ++ (three (crc x.2) ++ (heads l ++ z)):=by
   simp only [heads,head1,List.cons_append,List.drop_succ_cons,List.drop_zero,List.append_assoc]
  have e7:(heads (x :: l) ++ z).drop 7 = heads l ++ z:=by
   rw [heads,List.append_assoc,List.drop_left' (head1_length x)]
  have e0:(heads (x :: l) ++ z).getD 0 0 = idB x.1:=by
   simp only [heads,head1,List.cons_append,List.getD_cons_zero]
  have eb:bodies (x :: l) ++ z' = x.2 ++ (bodies l ++ z'):=by rw [bodies,List.append_assoc]
  rw [List.length_cons,secs,e1,e7,e0,eb,num_three _ (by omega),if_neg (by rw [List.length_append];omega),List.drop_left,List.take_left,ih]
  simp only [Option.map_some]
  rw [idB_val (by omega) (by omega)]
def parse (b:List UInt8):Option (List Sec):=secs (b.getD 5 0).toNat (b.drop 6) (b.drop (9 + 7 * (b.getD 5 0).toNat))
theorem file_count {l:List Sec} (h:l.length ≤ 8) (z:List UInt8):((file l ++ z).getD 5 0).toNat = l.length:=by
 simp only [file,header,title,List.cons_append,List.nil_append,List.getD_cons_succ,List.getD_cons_zero,UInt8.toNat_ofNat']
 omega
theorem file_drop6 (l:List Sec) (z:List UInt8):(file l ++ z).drop 6 = heads l ++ (three (crc (header l)) ++ bodies l ++ z):=by
 simp only [file,header,title,List.cons_append,List.nil_append,List.drop_succ_cons,List.drop_zero,List.append_assoc]
theorem file_dropAll (l:List Sec) (z:List UInt8):(file l ++ z).drop (9 + 7 * l.length) = bodies l ++ z:=by
 have:file l ++ z = (header l ++ three (crc (header l))) ++ (bodies l ++ z):=by simp only [file,List.append_assoc]
 rw [this,List.drop_left']
 rw [List.length_append,header_length,three_length]
 omega
theorem parse_file {l:List Sec} (h:May l) (z:List UInt8):parse (file l ++ z) = some l:=by
 unfold parse
 rw [file_count h.1,file_drop6,file_dropAll]
 exact secs_back l 0 (by omega) h.2.1 (by have:=h.2.2;omega) _ _
theorem file_prefix {l l':List Sec} (h:May l) (h':May l') {z:List UInt8} (e:file l' ++ z = file l):l' = l∧z = []:=by
 have h1:=parse_file h' z
 have h2:=parse_file h []
 rw [List.append_nil] at h2
 rw [e,h2] at h1
 cases h1
 refine ⟨rfl,?_⟩
 have:=congrArg List.length e
 rw [List.length_append] at this
 exact List.eq_nil_of_length_eq_zero (by omega)
theorem file_inj {l l':List Sec} (h:May l) (h':May l') (e:file l' = file l):l' = l:=(file_prefix h h' (z:=[]) (by rw [List.append_nil];exact e)).1
def Reads (b:List UInt8) (r:Option (List Sec)):Prop:=∀ l,r = some l ↔ May l∧file l = b
theorem Reads.unique {b:List UInt8} {r r':Option (List Sec)} (h:Reads b r) (h':Reads b r'):r = r':=by
 cases r with
 | none =>
  cases r' with
  | none=>rfl
  | some l=>exact absurd ((h l).2 ((h' l).1 rfl)) (by simp)
 | some l=>exact ((h' l).2 ((h l).1 rfl)).symm
theorem reads_none {b:List UInt8} (h:∀ l,May l → file l ≠ b):Reads b none:=fun l=>⟨fun e=>(by cases e),fun e=>absurd e.2 (h l e.1)⟩
theorem reads_of_parse {b:List UInt8} {l:List Sec} (h:parse b = some l):Reads b (if May l∧file l = b then some l else none):=fun l'=>by
 constructor
 ·
  intro e
  split at e
  ·
   cases e
   assumption
  ·
   cases e
 ·
  rintro ⟨h1,h2⟩
  have:=parse_file h1 []
  rw [List.append_nil,h2,h] at this
  cases this
  rw [if_pos ⟨h1,h2⟩]
theorem reads_of_parse_none {b:List UInt8} (h:parse b = none):Reads b none:=reads_none fun l h1 h2=>by
 have:=parse_file h1 []
 rw [List.append_nil,h2,h] at this
 cases this
theorem reads_short {b:List UInt8} (h:b.length < 9 ∨ b.length < 9 + 7 * (b.getD 5 0).toNat ∨ 8 < (b.getD 5 0).toNat):Reads b none:=reads_none fun l h1 h2=>by
 have e1:=file_length l
 have e2:=file_count h1.1 []
 rw [List.append_nil,h2] at e2
 rw [h2] at e1
 have:=h1.1
 omega
def szs:Nat → List UInt8 → Nat
 | 0,_=>0
 | n + 1,h=>num (h.drop 1) + szs n (h.drop 7)
theorem szs_heads:∀ (l:List Sec),total l < 16777216 → ∀ z,szs l.length (heads l ++ z) = total l
 | [],_,_=>rfl
 | x :: l,ht,z=>by
  rw [total] at ht
  have e1:(heads (x :: l) ++ z).drop 1 = three x.2.length ++ (three (crc x.2) ++ (heads l ++ z)):=by
   simp only [heads,head1,List.cons_append,List.drop_succ_cons,List.drop_zero,List.append_assoc]
  have e7:(heads (x :: l) ++ z).drop 7 = heads l ++ z:=by
   rw [heads,List.append_assoc,List.drop_left' (head1_length x)]
  rw [List.length_cons,szs,e1,e7,num_three _ (by omega),szs_heads l (by omega) z,total]
theorem szs_mono (h:List UInt8):∀ {n m:Nat},n ≤ m → szs n h ≤ szs m h:=by
 intro n
 induction n generalizing h with
 | zero=>intro m _;exact Nat.zero_le _
 | succ n ih =>
  intro m hm
  obtain ⟨k,rfl⟩:∃ k,m = k + 1:=⟨m - 1,by omega⟩
  rw [szs,szs]
  have:=ih (h.drop 7) (m:=k) (by omega)
  omega
theorem heads_inj:∀ (l l':List Sec),l.length = l'.length → total l < 16777216 → total l' < 16777216 → heads l = heads l' →
  ∀ (z z':List UInt8) (j:Nat) (c:UInt8),bodies l' = (bodies l).set j c → j < (bodies l).length → bodies l = bodies l'
 | [],[],_,_,_,_,_,_,_,_,_,hj=>by simp [bodies] at hj
 | x :: l,x' :: l',hl,ht,ht',hh,z,z',j,c,hb,hj=>by
  rw [total] at ht ht'
  have h7:head1 x = head1 x'∧heads l = heads l':=List.append_inj (by simpa [heads] using hh) (by rw [head1_length,head1_length])
  have h3:=h7.1
  unfold head1 at h3
  simp only [List.cons.injEq] at h3
  have h4:=List.append_inj h3.2 (by rw [three_length,three_length])
  have hlen:x.2.length = x'.2.length:=three_inj (by omega) (by omega) h4.1
  have hcrc:crc x.2 = crc x'.2:=three_inj (crc_lt _) (crc_lt _) h4.2
  rw [bodies,bodies] at hb
  rw [bodies] at hj
  by_cases hjx:j < x.2.length
  ·
   rw [List.set_append_left _ _ hjx] at hb
   have h5:=List.append_inj hb (by rw [List.length_set];omega)
   rw [h5.1] at hcrc
   have h6:=crc_set x.2 j hjx c hcrc.symm
   have:x.2.set j c = x.2:=by rw [h6];exact List.set_getElem_self hjx
   rw [bodies,bodies,h5.1,this,h5.2]
  ·
   rw [List.set_append_right _ _ (by omega)] at hb
   have h5:=List.append_inj hb (by omega)
   have ih:=heads_inj l l' (by simpa using hl) (by omega) (by omega) h7.2 z z' (j - x.2.length) c h5.2 (by rw [List.length_append] at hj;omega)
   rw [bodies,bodies,ih,h5.1]
theorem set_drop (l:List UInt8) (i n:Nat) (c:UInt8) (h:i < n):(l.set i c).drop n = l.drop n:=by
 rw [List.drop_set,if_pos h]
theorem set_take (l:List UInt8) (i n:Nat) (c:UInt8) (h:n ≤ i):(l.set i c).take n = l.take n:=by
 rw [List.take_set,List.set_eq_of_length_le (by rw [List.length_take];omega)]
theorem file_take (l:List Sec):(file l).take (6 + 7 * l.length) = header l:=by
 unfold file
 rw [List.append_assoc,List.take_left' (header_length l)]
theorem file_seal (l:List Sec):((file l).drop (6 + 7 * l.length)).take 3 = three (crc (header l)):=by
 unfold file
 rw [List.append_assoc,List.drop_left' (header_length l),List.take_left' (three_length _)]
theorem file_bodies (l:List Sec):(file l).drop (9 + 7 * l.length) = bodies l:=by
 have:=file_dropAll l []
 rwa [List.append_nil,List.append_nil] at this
theorem file_turned {l l':List Sec} (h:May l) (h':May l') {i:Nat} (hi:i < (file l).length) {c:UInt8} (hc:c ≠ (file l)[i]):file l' ≠ (file l).set i c:=by
 intro e
 have hlen:=congrArg List.length e
 rw [List.length_set,file_length,file_length] at hlen
 have hn:=file_count h.1 []
 have hn':=file_count h'.1 []
 rw [List.append_nil] at hn hn'
 by_cases h5:i = 5
 ·
  subst h5
  have d1:=congrArg (List.drop 6) e
  rw [set_drop _ _ _ _ (by omega)] at d1
  have f1:=file_drop6 l []
  have f2:=file_drop6 l' []
  rw [List.append_nil] at f1 f2
  have s1:=szs_heads l (by have:=h.2.2;omega) (three (crc (header l)) ++ bodies l ++ [])
  have s2:=szs_heads l' (by have:=h'.2.2;omega) (three (crc (header l')) ++ bodies l' ++ [])
  rw [← f1] at s1
  rw [← f2,d1] at s2
  rcases Nat.lt_trichotomy l.length l'.length with g | g | g
  ·
   have:=szs_mono ((file l).drop 6) (Nat.le_of_lt g)
   omega
  ·
   have e5:(file l').getD 5 0 = c:=by
    rw [e,List.getD_eq_getElem?_getD,List.getElem?_set_self hi]
    try rfl
   rw [e5] at hn'
   apply hc
   have e6:(file l)[5] = (file l).getD 5 0:=by rw [List.getD_eq_getElem?_getD,List.getElem?_eq_getElem hi];rfl
   rw [e6]
   apply UInt8.toNat_inj.1
   omega
  ·
   have:=szs_mono ((file l).drop 6) (Nat.le_of_lt g)
   omega
 ·
  have hnn:l'.length = l.length:=by
   rw [← hn,← hn',e,List.getD_eq_getElem?_getD,List.getD_eq_getElem?_getD,List.getElem?_set_ne (by omega)]
  have t1:=congrArg (List.take (6 + 7 * l.length)) e
  rw [← hnn,file_take,hnn] at t1
  have q1:((file l').drop (6 + 7 * l.length)).take 3 = (((file l).set i c).drop (6 + 7 * l.length)).take 3:=by rw [e]
  rw [← hnn,file_seal,hnn] at q1
  have b1:=congrArg (List.drop (9 + 7 * l.length)) e
  rw [← hnn,file_bodies,hnn] at b1
  by_cases r1:i < 6 + 7 * l.length
  ·
   -- in the header
   rw [List.take_set,file_take] at t1
   rw [set_drop _ _ _ _ r1,file_seal] at q1
   have hcr:=three_inj (crc_lt _) (crc_lt _) q1
   have hil:i < (header l).length:=by rw [header_length];exact r1
   rw [t1] at hcr
   have:=crc_set (header l) i hil c hcr
   apply hc
   rw [this]
   simp only [file,List.append_assoc]
   rw [List.getElem_append_left hil]
  ·
   rw [set_take _ _ _ _ (by omega),file_take] at t1
   by_cases r2:i < 9 + 7 * l.length
   ·
    -- in its sum
    rw [t1,List.drop_set,if_neg (by omega),List.take_set,file_seal] at q1
    have hj:i - (6 + 7 * l.length) < (three (crc (header l))).length:=by rw [three_length];omega
    have q2:=congrArg (fun b=>b[i - (6 + 7 * l.length)]?) q1
    rw [List.getElem?_set_self hj,List.getElem?_eq_getElem hj] at q2
    apply hc
    cases q2
    have s:=file_seal l
    have g:(three (crc (header l)))[i - (6 + 7 * l.length)]? = (file l)[i]?:=by
     rw [← s,List.getElem?_take,if_pos (by rw [three_length] at hj;exact hj),List.getElem?_drop]
     congr 1
     omega
    rw [List.getElem?_eq_getElem hj,List.getElem?_eq_getElem hi] at g
    exact Option.some.inj g
   ·
    -- in the bodies
    rw [List.drop_set,if_neg (by omega),file_bodies] at b1
    have hh:heads l = heads l':=by
     unfold header at t1
     have:=List.append_cancel_left t1
     simp only [List.cons.injEq] at this
     exact this.2.symm
    have hj:i - (9 + 7 * l.length) < (bodies l).length:=by
     rw [bodies_length];rw [file_length] at hi;omega
    have hsame:=heads_inj l l' hnn.symm (by have:=h.2.2;omega) (by have:=h'.2.2;omega) hh [] [] _ c b1 hj
    rw [← hsame] at b1
    have q2:=congrArg (fun b=>b[i - (9 + 7 * l.length)]?) b1
    rw [List.getElem?_set_self hj,List.getElem?_eq_getElem hj] at q2
    apply hc
    have s:=file_bodies l
    have g:(bodies l)[i - (9 + 7 * l.length)]? = (file l)[i]?:=by
     rw [← s,List.getElem?_drop]
     congr 1
     omega
    rw [List.getElem?_eq_getElem hj,List.getElem?_eq_getElem hi] at g
    cases q2
    exact Option.some.inj g
end BoxPure
namespace StoreP
open Go.Lib TermPure LinesPure Tri SortP OrdG ParseP FrontP PackW PackP BoxPure
theorem shown_short {t:Term} (h:is t = true):(shown t).length ≤ 246:=by
 have hq:=Show.quoted_len t.text
 unfold is at h
 unfold shown
 by_cases h1:t.kind = 1
 ·
  rw [if_pos h1] at h ⊢
  unfold isIRI at h
  simp only [Bool.and_eq_true,decide_eq_true_eq] at h
  simp
  omega
 rw [if_neg h1] at h ⊢
 by_cases h2:t.kind = 2
 ·
  rw [if_pos h2] at h ⊢
  unfold isLabel at h
  simp only [Bool.and_eq_true,decide_eq_true_eq] at h
  simp
  omega
 rw [if_neg h2] at h ⊢
 by_cases h3:t.kind = 3
 ·
  rw [if_pos h3] at h
  unfold isText at h
  simp only [Bool.and_eq_true,decide_eq_true_eq] at h
  rw [if_neg (by omega),if_neg (by omega)]
  omega
 rw [if_neg h3] at h
 by_cases h4:t.kind = 4
 ·
  rw [if_pos h4] at h ⊢
  unfold isText isLang at h
  simp only [Bool.and_eq_true,decide_eq_true_eq] at h
  simp
  omega
 rw [if_neg h4] at h ⊢
 by_cases h5:t.kind = 5
 ·
  rw [if_pos h5] at h ⊢
  unfold isText isIRI at h
  simp only [Bool.and_eq_true,decide_eq_true_eq] at h
  simp
  omega
 ·
  rw [if_neg h5] at h
  cases h
theorem shown_ne {t:Term} (h:is t = true):shown t ≠ []:=by
 unfold shown TermPure.quoted
 repeat' split
 all_goals simp
def nums (I:List Ids):List Nat:=I.flatMap fun x=>[x.a,x.b,x.c]
theorem nums_len (I:List Ids):(nums I).length = 3 * I.length:=by
 induction I with
 | nil=>rfl
 | cons x I ih =>
  show (nums I).length + 3 = _
  rw [ih,List.length_cons]
  omega
theorem nums_inj:∀ {I J:List Ids},nums I = nums J → I = J
 | [],[],_=>rfl
 | [],y :: J,h=>by cases h
 | x :: I,[],h=>by cases h
 | x :: I,y :: J,h=>by
  injection h with h1 h
  injection h with h2 h
  injection h with h3 h
  have:x = y:=by cases x;cases y;simp_all
  rw [this,nums_inj h]
def texts (T:List Triple):List (List UInt8):=(termsT T).map shown
def wide (T:List Triple):Nat:=Lib.bitLen (termsT T).length
def secs2 (T:List Triple):List Sec:=[(1,frontB (texts T)),(2,headN T.length ++ packB (nums (idsT T)) (wide T))]
def encT (T:List Triple):List UInt8:=file (secs2 T)
theorem texts_short {T:List Triple} (h:Valid T):∀ x ∈ texts T,x.length ≤ 246:=fun x hx=>by
 obtain ⟨t,ht,rfl⟩:=List.mem_map.1 hx
 exact shown_short (termsT_is h t ht)
theorem texts_rise {T:List Triple} (h:Valid T):(texts T).Pairwise (· < ·):=by
 unfold texts
 rw [List.pairwise_map]
 exact termsT_rise h
theorem lt_bitLen (x:Nat) (h:x < 2 ^ 64):x < 2 ^ Lib.bitLen x:=by
 by_cases h0:x = 0
 ·
  subst h0;exact Nat.two_pow_pos _
 ·
  exact (Lib.bitLenAux_bounds 64 x h h0).2.2
theorem E_len {T:List Triple} (h:Valid T) (hl:T.length ≤ 100):(termsT T).length ≤ 300:=by
 have h1:=Made.terms_len h
 have h2:=Made.inT_len T
 omega
theorem wide_le {T:List Triple} (h:Valid T) (hl:T.length ≤ 100):wide T ≤ 9:=by
 have:=E_len h hl
 exact Lib.bitLen_le _ 9 (by decide) (by omega)
theorem nums_small {T:List Triple} (h:Valid T) (hl:T.length ≤ 100):∀ n ∈ nums (idsT T),n ≤ 300∧n < 2 ^ wide T:=by
 intro n hn
 have hE:=E_len h hl
 have hb:n ≤ (termsT T).length:=by
  unfold nums idsT at hn
  obtain ⟨x,hx,hn⟩:=List.mem_flatMap.1 hn
  obtain ⟨t,ht,rfl⟩:=List.mem_map.1 hx
  have key:∀ y,idOf (termsT T) y ≤ (termsT T).length:=fun y=>by
   unfold idOf
   split
   ·
    rename_i hy
    have:=List.idxOf_lt_length_of_mem hy
    omega
   ·
    omega
  unfold idsOf at hn
  simp at hn
  rcases hn with rfl | rfl | rfl <;> exact key _
 have:=lt_bitLen (termsT T).length (by omega)
 unfold wide
 omega
theorem nums_bits {T:List Triple} (h:Valid T) (hl:T.length ≤ 100):∀ n ∈ nums (idsT T),n ≤ 1000000∧Lib.bitLen n ≤ wide T:=by
 intro n hn
 obtain ⟨h1,h2⟩:=nums_small h hl n hn
 exact ⟨by omega,Lib.bitLen_le _ _ (by have:=wide_le h hl;omega) h2⟩
theorem front_len {T:List Triple} (h:Valid T) (hl:T.length ≤ 100):(frontB (texts T)).length ≤ 74402:=by
 have hE:=E_len h hl
 have h1:=upTo_len (texts_short h) (texts T).length (lR _)
 have h2:(texts T).length = (termsT T).length:=by unfold texts;simp
 unfold frontB headN
 rw [List.length_append]
 simp only [List.length_cons,List.length_nil]
 have:(texts T).length * (246 + 2) ≤ 300 * 248:=Nat.mul_le_mul (by omega) (lR _)
 omega
theorem ids_len (T:List Triple):(idsT T).length = T.length:=by unfold idsT;simp
theorem body_len {T:List Triple} (h:Valid T) (hl:T.length ≤ 100):(headN T.length ++ packB (nums (idsT T)) (wide T)).length ≤ 400:=by
 have h1:=wide_le h hl
 rw [List.length_append,packB_len,nums_len,ids_len]
 have:3 * T.length * wide T ≤ 300 * 9:=Nat.mul_le_mul (by omega) h1
 unfold headN
 simp only [List.length_cons,List.length_nil]
 omega
theorem enc_may {T:List Triple} (h:Valid T) (hl:T.length ≤ 100):May (secs2 T):=by
 have h1:=front_len h hl
 have h2:=body_len h hl
 unfold May secs2
 refine ⟨by simp,by simp [rising],?_⟩
 simp only [total,List.length_cons,List.length_nil]
 omega
theorem map_shown_inj:∀ {a b:List Term},(∀ x ∈ a,is x = true) → (∀ x ∈ b,is x = true) → a.map shown = b.map shown → a = b
 | [],[],_,_,_=>rfl
 | [],y :: b,_,_,h=>by cases h
 | x :: a,[],_,_,h=>by cases h
 | x :: a,y :: b,ha,hb,h=>by
  rw [List.map_cons,List.map_cons] at h
  injection h with h1 h2
  rw [shown_inj (ha x (by simp)) (hb y (by simp)) h1,map_shown_inj (fun z hz=>ha z (by simp [hz])) (fun z hz=>hb z (by simp [hz])) h2]
theorem ids_inj {E:List Term}:∀ {T U:List Triple},(∀ x ∈ inTriples T,x ∈ E) → (∀ x ∈ inTriples U,x ∈ E) → T.map (idsOf E) = U.map (idsOf E) → T = U
 | [],[],_,_,_=>rfl
 | [],y :: b,_,_,h=>by cases h
 | x :: a,[],_,_,h=>by cases h
 | x :: T,y :: U,hT,hU,h=>by
  rw [List.map_cons,List.map_cons] at h
  injection h with h1 h2
  obtain ⟨a1,a2,a3⟩:=mem_three (T:=x :: T) (t:=x) (by simp)
  obtain ⟨b1,b2,b3⟩:=mem_three (T:=y :: U) (t:=y) (by simp)
  unfold idsOf at h1
  injection h1 with e1 e2 e3
  have:=(idx_eq (hT _ a1) (hU _ b1)).1 e1
  have:=(idx_eq (hT _ a2) (hU _ b2)).1 e2
  have:=(idx_eq (hT _ a3) (hU _ b3)).1 e3
  have hxy:x = y:=by cases x;cases y;simp_all
  have sub:∀ (z:Triple) (V:List Triple) (w:Term),w ∈ inTriples V → w ∈ inTriples (z :: V):=fun z V w hw=>by
   unfold inTriples at *
   rw [List.flatMap_cons]
   exact List.mem_append.2 (.inr hw)
  rw [hxy,ids_inj (fun z hz=>hT z (sub _ _ _ hz)) (fun z hz=>hU z (sub _ _ _ hz)) h2]
theorem encT_inj {T U:List Triple} (hT:Valid T) (hU:Valid U) (lT:T.length ≤ 100) (lU:U.length ≤ 100) (h:encT T = encT U):T = U:=by
 have hs:=file_inj (enc_may hU lU) (enc_may hT lT) h
 unfold secs2 at hs
 injection hs with h1 h2
 injection h2 with h2 _
 injection h1 with _ h1
 injection h2 with _ h2
 have s1:=texts_short hT
 have s2:=texts_short hU
 have n1:=E_len hT lT
 have n2:=E_len hU lU
 have c1:(texts T).length = (termsT T).length:=by unfold texts;simp
 have c2:(texts U).length = (termsT U).length:=by unfold texts;simp
 have hx:texts T = texts U:=frontB_inj (fun x hx=>by have:=s1 x hx;omega) (fun x hx=>by have:=s2 x hx;omega) (by omega) (by omega) h1
 have hE:termsT T = termsT U:=map_shown_inj (termsT_is hT) (termsT_is hU) hx
 obtain ⟨e1,e2⟩:=List.append_inj h2 (by simp [headN])
 have hlen:=head_inj (by omega) (by omega) e1
 have hwd:wide T = wide U:=by unfold wide;rw [hE]
 rw [hwd] at e2
 have a1:=nums_small hT lT
 have a2:=nums_small hU lU
 rw [hwd] at a1
 have hn:=packB_inj (by rw [nums_len,nums_len,ids_len,ids_len,hlen]) (fun n hn=>(a1 n hn).2) (fun n hn=>(a2 n hn).2) e2
 have hi:=nums_inj hn
 unfold idsT at hi
 rw [hE] at hi
 exact ids_inj (fun x hx=>by rw [← hE];exact (termsT_mem hT x).2 hx) (fun x hx=>(termsT_mem hU x).2 hx) hi
end StoreP
namespace FrontW
open Go.RowKit Go.Lib B Rd StoreW Clones FrontP
def strs (l:List (List UInt8)):List ByteArray:=l.map mkS
theorem strs_len (l:List (List UInt8)):(strs l).length = l.length:=by simp [strs]
theorem str_cells {w:World} {ok:Nat → Prop} {l:List (List UInt8)} {A:Option Addr} {c:Nat} (h:strK.sl.M w ok (strs l) [.slice A l.length c]) (hp:0 < l.length) :
  ∃ b off,A = some ⟨b,off,none⟩∧ok b∧b < w.heap.size∧∀ i (hi:i < l.length),w.cell? ⟨b,off + i,none⟩ = some (.string (mkS l[i])):=by
 obtain ⟨A',c',he,hlc,_,hA,hrow⟩:=h
 have hz:(strs l).length = l.length:=strs_len l
 obtain ⟨rfl,rfl⟩:A = A'∧c = c':=by simpa [hz] using he
 obtain ⟨b,off,hAe,hok,hcells⟩:=Kd.row_plain rfl hrow (by omega)
 have hget:∀ i (hi:i < l.length),w.cell? ⟨b,off + i,none⟩ = some (.string (mkS l[i])):=fun i hi=>by
  obtain ⟨u,hu,hM⟩:=hcells i (by omega)
  have e:(strs l)[i]'(by omega) = mkS l[i]:=by simp [strs]
  rw [e] at hM
  obtain ⟨h1,_⟩:=hM
  simp at h1
  rw [hu,h1]
 exact ⟨b,off,hAe,hok,cell_lt (hget 0 hp),hget⟩
def DictAt (w:World) (ok:Nat → Prop) (g:Nat) (l:List (List UInt8)):Prop:=∃ A c,w.cell? ⟨g,0,none⟩ = some (.slice A l.length c)∧strK.sl.M w ok (strs l) [.slice A l.length c]
theorem own_cells {e:TypeId} {w:World} {base:Nat} {ok:Nat → Prop} {v:Value} {l:List UInt8} (h:byteK.own e w base ok v l):w.ownsRow base e 1 v l.length (Lib.byteCells l):=by
 obtain ⟨_,cells,ho,hr⟩:=h
 have ho1:w.ownsRow base e 1 v l.length cells:=ho
 have hl:cells.length = l.length:=by simpa using ho1.1
 have:cells = Lib.byteCells l:=by
  refine List.ext_getElem (by rw [hl];simp [Lib.byteCells]) fun i h1 h2=>?_
  have hi:i < l.length:=by omega
  have hM:((cells.drop (i * 1)).take 1) = [.int .u8 (l[i].toNat:Int)]:=hr i l[i] (List.getElem?_eq_getElem hi)
  rw [Nat.mul_one,List.drop_eq_getElem_cons h1,List.take_succ_cons,List.take_zero] at hM
  injection hM with hM _
  rw [hM]
  simp [Lib.byteCells]
 rw [← this]
 exact ho1
theorem own_of_cells {e:TypeId} {w:World} {base:Nat} {ok:Nat → Prop} {v:Value} {l:List UInt8} (hl:l.length ≤ 140737488355328) (h:w.ownsRow base e 1 v l.length (Lib.byteCells l)):byteK.own e w base ok v l:=by
 refine ⟨hl,Lib.byteCells l,h,fun i x hx=>?_⟩
 exact u8_lit l i x hx
section
variable {W w0 : World} {ops : Array Oper} {rest : List Oper} {o : Oper} {a : Act} {Q : Exit → Act → World → Prop}
theorem own_app_str (hgd:o.guard = none) (sl x:Operand) (ho:o.op = .call { callee:=.builtin .append,args:=#[sl,x],argTypes:=#[55,9] })
  (base:Nat) (v:Value) (xs l:List UInt8) (hs:a.eval sl = v) (hx:a.eval x = .string (mkS l)) (HO:byteK.own 5 W base TT v xs) (HB:Below base w0 W) (hbase:base ≤ W.heap.size) (hl:xs.length + l.length ≤ 140737488355328)
  (h:∀ v1 w1,byteK.own 5 w1 base TT v1 (xs ++ l) → Below base w0 w1 → W.grownBy w1 v.ownBlock → wpList Tryz.prog ops Q rest (a.put o.dst v1) w1):wpList Tryz.prog ops Q (o :: rest) a W:=by
 obtain ⟨i0,hi,hz0,hz1,hz2⟩:=info_parts Tryz.Builder_Extra_159.infoByte
 have zl:=mkS_size l
 have hlt:=Kd.own_lt HO
 refine Lib.wpList_append_own_string W hgd sl x 55 9 ho base 5 i0 Tryz.underlying55 Tryz.underlying9 hi hz0 hz1 hz2 v _ _ hs (own_cells HO) (mkS l) hx (by rw [zl];unfold maxLen;omega) (by rw [zl];omega) hbase ?_
 intro v1 w1 hown hg _
 refine h v1 w1 (own_of_cells (by rw [List.length_append];omega) ?_) (HB.grown hg hbase (fun k hk=>(hlt k hk).1)) hg
 rw [Bld.strCells_eq,Bld.byteCells_append,zl] at hown
 rw [List.length_append]
 exact hown
end
theorem shared_calls (a b:List UInt8) (ha:a.length ≤ 140737488355328) (hb:b.length ≤ 140737488355328) (w:World):Calls Tryz.prog 105 #[.string (mkS a),.string (mkS b)] w fun e w'=>e = .returned (.int .i64 (shared a b:Nat))∧Below w.heap.size w w':=by
 have za:=mkS_size a
 have zb:=mkS_size b
 have HS:=Zz (shared_at a b)
 obtain ⟨v,hv⟩:∃ v,v = shared a b:=⟨_,rfl⟩
 rw [← hv] at HS
 rw [← hv]
 clear hv
 go_enter Tryz.func105,Tryz.ntmps105
 go_wp2
 go_loopw [5] (fun vn wr=>∃ n:Nat,vn = .int .i64 n∧n ≤ a.length∧n ≤ b.length∧Hid (a.take n = b.take n∧Below w.heap.size w wr)) (fun vn _=>a.length - (intOf vn).toNat)
 case atStart=>exact ⟨0,rfl,by omega,by omega,Zz ⟨rfl,bR _ _⟩⟩
 case round =>
  obtain ⟨n,rfl,hna,hnb,HI⟩:=hrel
  have HBd:=Zz (fun q=>bel_drewN HI.o.2 q)
  by_cases h1:n < a.length
  ·
   have d1:decide (n < a.length) = true:=dT h1
   have e1:decide ((n:Int) < (a.length:Int)) = true:=dT (by omega)
   by_cases h2:n < b.length
   ·
    have d2:decide (n < b.length) = true:=dT h2
    have e2:decide ((n:Int) < (b.length:Int)) = true:=dT (by omega)
    have ka:n < (mkS a).size:=by rw [za];exact h1
    have kb:n < (mkS b).size:=by rw [zb];exact h2
    have ga:(mkS a)[n]'ka = a[n]:=Rd.mkS_get a n ka h1
    have gb:(mkS b)[n]'kb = b[n]:=Rd.mkS_get b n kb h2
    obtain ⟨x,hx⟩:∃ x,x = a[n]:=⟨_,rfl⟩
    obtain ⟨y,hy⟩:∃ y,y = b[n]:=⟨_,rfl⟩
    rw [← hx] at ga
    rw [← hy] at gb
    have jn:(n:Int) < (a.length:Int):=by omega
    have jm:(n:Int) < (b.length:Int):=by omega
    obtain ⟨p,hp⟩:∃ p,p = x.toNat:=⟨_,rfl⟩
    obtain ⟨q,hq⟩:∃ q,q = y.toNat:=⟨_,rfl⟩
    have hxp:x.toNat = p:=hp.symm
    have hyq:y.toNat = q:=hq.symm
    by_cases h3:x = y
    ·
     have hpq:((p:Int) == (q:Int)) = true:=by rw [hp,hq,h3];simp
     have hab:a[n] = b[n]:=hx.symm.trans (h3.trans hy)
     have HN:Hid (a.take (n + 1) = b.take (n + 1)):=Zz ((List.take_succ_eq_append_getElem h1).trans ((congr (congrArg (fun (u:List UInt8) (z:List UInt8)=>u ++ z) HI.o.1) (congrArg (fun (q:UInt8)=>[q]) hab)).trans (List.take_succ_eq_append_getElem h2).symm))
     clear h3 hx hy hp hq HI
     go_upto_region 2 with fail
     go_quiet (fail)
     go_wp2
     go_roundw
     case rel=>exact ⟨n + 1,by go_num,by omega,by omega,Zz ⟨HN.o,HBd.o _⟩⟩
     case measure=>simp [intOf];omega
    ·
     have hpq:((p:Int) == (q:Int)) = false:=by
      rw [beq_eq_false_iff_ne,hp,hq]
      intro h
      exact h3 (UInt8.toNat_inj.1 (by omega))
     have HN:Hid (v = n):=Zz (HS.o n hna hnb HI.o.1 (fun _ _ he=>h3 (hx.trans (he.trans hy.symm))))
     clear h3 hx hy hp hq HI
     go_upto_region 2 with fail
     go_quiet (fail)
     go_wp2
     go_ret
     exact ⟨by rw [HN.o];rfl,HBd.o _⟩
   ·
    have d2:decide (n < b.length) = false:=dF h2
    have e2:decide ((n:Int) < (b.length:Int)) = false:=dF (by omega)
    have HN:Hid (v = n):=Zz (HS.o n hna hnb HI.o.1 (fun _ h=>absurd h h2))
    clear HI
    go_upto_region 2 with fail
    go_quiet (fail)
    go_wp2
    go_ret
    exact ⟨by rw [HN.o];rfl,HBd.o _⟩
  ·
   have d1:decide (n < a.length) = false:=dF h1
   have e1:decide ((n:Int) < (a.length:Int)) = false:=dF (by omega)
   have HN:Hid (v = n):=Zz (HS.o n hna hnb HI.o.1 (fun h _=>absurd h h1))
   clear HI
   go_upto_region 2 with fail
   go_quiet (fail)
   go_wp2
   go_ret
   exact ⟨by rw [HN.o];rfl,HBd.o _⟩
theorem new_calls (l:List (List UInt8)) (hl:l.length ≤ 300) (hs:∀ x ∈ l,x ≠ []∧x.length ≤ 250) (hr:l.Pairwise (· < ·)) (A:Option Addr) (c:Nat) (w:World) (HL:strK.sl.M w (fun _=>True) (strs l) [.slice A l.length c]) :
  Calls Tryz.prog 57 #[.slice A l.length c] w fun e w'=>(∃ g,e = .returned (.tuple #[.pointer (some ⟨g,0,none⟩),.int .i64 0])∧w.heap.size ≤ g∧DictAt w' (fun _=>True) g l)∧Below w.heap.size w w':=by
 have HC:=Zz (clone_str_calls (strs l) A c w (by rw [strs_len];exact HL) (by rw [strs_len];omega))
 rw [strs_len] at HC
 have HRow:=Zz (fun hp=>str_cells HL hp)
 have HS:=Zz hs
 have HR:=Zz hr
 have h300:decide ((300:Int) < (l.length:Int)) = false:=dF (by omega)
 clear hs hr HL
 go_enter Tryz.func57,Tryz.ntmps57
 go_wp2
 go_loopw [11] (fun vk wr=>∃ k:Nat,vk = .int .i64 k∧k ≤ l.length∧w = wr) (fun vk _=>l.length - (intOf vk).toNat)
 case atStart=>exact ⟨0,rfl,by omega,rfl⟩
 case round =>
  obtain ⟨k,rfl,hk,rfl⟩:=hrel
  by_cases hlt:k < l.length
  ·
   have hd:decide ((k:Int) < (l.length:Int)) = true:=dT (by omega)
   have hd2:decide (k < l.length) = true:=dT hlt
   have ik:(k:Int) < (l.length:Int):=by omega
   obtain ⟨b,off,rfl,_,hbs,hcells⟩:=HRow.o (by omega)
   have hcx:=hcells k hlt
   obtain ⟨x,hx⟩:∃ x,x = l[k]:=⟨_,rfl⟩
   rw [← hx] at hcx
   have hxs:=HS.o x (by rw [hx];exact List.getElem_mem hlt)
   have zx:=mkS_size x
   have tx:=mkS_toList x
   have hemp:x.isEmpty = false:=by cases x with
    | nil=>exact absurd rfl hxs.1
    | cons a x=>rfl
   have hem2:(x == []) = false:=by simpa using hxs.1
   have h250:decide ((250:Int) < (x.length:Int)) = false:=dF (by omega)
   by_cases h0:k = 0
   ·
    subst h0
    clear hcells hx hxs
    simp only [Nat.add_zero] at hcx
    go_wp2
    go_roundw
    case rel=>exact ⟨1,by go_num,by omega,trivial⟩
    case measure=>simp [intOf];omega
   ·
    have hk0:decide ((0:Int) < (k:Int)) = true:=dT (by omega)
    obtain ⟨j,hj⟩:∃ j,j = k - 1:=⟨_,rfl⟩
    have hw1:IntKind.i64.wrap ((k:Int) - 1) = (j:Int):=by rw [IntKind.wrap_i64];omega
    have ij:(j:Int) < (l.length:Int):=by omega
    have hjl:j < l.length:=by omega
    have hcy:=hcells j hjl
    obtain ⟨y,hy⟩:∃ y,y = l[j]:=⟨_,rfl⟩
    rw [← hy] at hcy
    have hyx:y < x:=by rw [hx,hy];exact List.pairwise_iff_getElem.1 HR.o j k hjl hlt (by omega)
    have hless:Op.bytesLess (mkS y).toList (mkS x).toList = true:=by rw [Cmp.less_eq];exact dT hyx
    have ty:=mkS_toList y
    have hless2:Op.bytesLess y x = true:=by rw [Go.Proofs.bytesLess_eq];exact dT hyx
    clear hcells hx hy hxs hyx hj
    go_wp2
    go_roundw
    case rel=>exact ⟨k + 1,by go_num,by omega,trivial⟩
    case measure=>simp [intOf];omega
  ·
   have hd:decide ((k:Int) < (l.length:Int)) = false:=dF (by omega)
   have hd2:decide (k < l.length) = false:=dF hlt
   go_wp2_with fail
   refine HC.o.mono ?_
   rintro e w2 ⟨⟨v,rfl,ho⟩,hb⟩
   obtain ⟨A1,c1,rfl,_,_⟩:=Kd.own_slice ho
   rw [strs_len] at ho ⊢
   have hM:strK.sl.M w2 (fun _=>True) (strs l) [.slice A1 l.length c1]:=Kd.own_sl (ok:=TT) ho (fun k hk=>trivial) (fun k hk=>trivial)
   have HB2:=Zz (bel_alloc hb (.cells #[.slice A1 l.length c1] 155))
   have HD:Hid (DictAt (w2.alloc (.cells #[.slice A1 l.length c1] 155)) (fun _=>True) w2.heap.size l):=Zz ⟨A1,c1,by unfold World.cell?;dsimp only;rw [Kd.heap_new];rfl,Kd.M_below (Kd.M_bound hM) (bel_alloc (bR _ _) _) |> strK.sl.mono (fun _ _ _=>trivial)⟩
   have HZ:=Zz hb.size
   clear ho hM hb HC
   go_wp2
   go_ret2
   exact ⟨⟨_,rfl,HZ.o,HD.o⟩,HB2.o⟩
end FrontW
namespace FrontW
open Go.RowKit Go.Lib B Rd StoreW Clones FrontP
theorem any_u8:∀ (w:World) (ok ok':Nat → Prop) (x:UInt8) (cs:List Value),byteK.M w ok x cs → byteK.M w ok' x cs:=fun _ _ _ _ _ h=>h
theorem two_row (W:World) (a b:Nat) (ha:a < 256) (hb:b < 256):byteK.sl.M (W.alloc (.cells #[.int .u8 (a:Int),.int .u8 (b:Int)] 5)) (fun _=>True) [UInt8.ofNat a,UInt8.ofNat b] [.slice (some ⟨W.heap.size,0,none⟩) 2 2]:=by
 have ea:(UInt8.ofNat a).toNat = a:=by simp;omega
 have eb:(UInt8.ofNat b).toNat = b:=by simp;omega
 refine ⟨some ⟨W.heap.size,0,none⟩,2,rfl,lR _,⟨by simp,by unfold maxLen;omega⟩,fun h=>(by cases h),fun i x hx=>?_⟩
 match i with
 | 0 =>
  simp at hx
  subst hx
  refine ⟨_,[.int .u8 (a:Int)],rfl,trivial,by show _ = [Value.int .u8 ((UInt8.ofNat a).toNat:Int)];rw [ea],fun j u hu=>?_⟩
  rw [add_plain,World.cell?,Kd.heap_new]
  match j with
  | 0 =>
   simp at hu
   subst hu
   rfl
  | j + 1=>simp at hu
 | 1 =>
  simp at hx
  subst hx
  refine ⟨_,[.int .u8 (b:Int)],rfl,trivial,by show _ = [Value.int .u8 ((UInt8.ofNat b).toNat:Int)];rw [eb],fun j u hu=>?_⟩
  rw [add_plain,World.cell?,Kd.heap_new]
  match j with
  | 0 =>
   simp at hu
   subst hu
   rfl
  | j + 1=>simp at hu
 | i + 2=>simp at hx
theorem head_own (W:World) (base n:Nat) (hb:base ≤ W.heap.size) (hn:n < 65536):byteK.own 5 (W.alloc (.cells #[.int .u8 ((n:Int) / 256),.int .u8 ((n:Int) % 256)] 5)) base TT (.slice (some ⟨W.heap.size,0,none⟩) 2 2) (headN n):=by
 have ea:((UInt8.ofNat (n / 256)).toNat:Int) = (n:Int) / 256:=by simp;omega
 have eb:((UInt8.ofNat (n % 256)).toNat:Int) = (n:Int) % 256:=by simp
 refine Kd.own_block (cells:=[.int .u8 ((n:Int) / 256),.int .u8 ((n:Int) % 256)]) (xs:=headN n) hb (Kd.heap_new _ _) rfl (by simp [headN]) (fun i x h=>?_)
 unfold headN at h
 match i with
 | 0 =>
  simp at h
  subst h
  show _ = [Value.int .u8 ((UInt8.ofNat (n / 256)).toNat:Int)]
  rw [ea]
  try rfl
 | 1 =>
  simp at h
  subst h
  show _ = [Value.int .u8 ((UInt8.ofNat (n % 256)).toNat:Int)]
  rw [eb]
  try rfl
 | i + 2=>simp at h
theorem bytes_calls (l:List (List UInt8)) (hl:l.length ≤ 300) (hs:∀ x ∈ l,x.length ≤ 250) (g:Nat) (w:World) (h:DictAt w (fun _=>True) g l) :
  Calls Tryz.prog 61 #[.pointer (some ⟨g,0,none⟩)] w fun e w'=>(∃ v,e = .returned v∧byteK.own 5 w' w.heap.size TT v (frontB l))∧Below w.heap.size w w':=by
 obtain ⟨A,c,hg,hM⟩:=h
 have HRow:=Zz (fun hp=>str_cells (Kd.M_bound hM) hp)
 have gp:=fun p:QT.Bel w=>p.cell (b:=g) (o:=0) hg
 have HG:=Zz hg
 have hgl:g < w.heap.size:=cell_lt hg
 have HS:=Zz hs
 have HUp:Hid (∀ k,k ≤ l.length → (headN l.length ++ upTo l k).length ≤ 100000):=Zz (fun k hk=>by
  have h1:=upTo_len hs k hk
  have h2:k * (250 + 2) ≤ 300 * 252:=Nat.mul_le_mul (by omega) (lR _)
  simp only [List.length_append,headN,List.length_cons,List.length_nil]
  omega)
 have HEnd:Hid (headN l.length ++ upTo l l.length = frontB l):=Zz rfl
 have HHead:=Zz (fun W hb=>head_own W w.heap.size l.length hb (by omega))
 clear hM hg hs
 go_enter Tryz.func61,Tryz.ntmps61
 go_upto_region 3 with fail
 refine QT.region_bel 14 (by kernel_rfl) (by kernel_rfl) ?_
 simp only [List.take_succ_cons,List.take_zero,List.drop_succ_cons,List.drop_zero]
 iterate 14 (go_big_quiet_step (fail))
 refine wpQuiet_nil ?_
 intro w2 hw'
 obtain ⟨⟨_,hb⟩,rfl⟩:=hw'
 have HO0:=Zz (HHead.o w2 hb.size)
 have HB0:=Zz (bel_alloc hb (.cells #[.int .u8 ((l.length:Int) / 256),.int .u8 ((l.length:Int) % 256)] 5))
 have HN0:Hid (headN l.length ++ upTo l 0 = headN l.length):=Zz (by simp [upTo])
 have hg2:(w2.alloc (.cells #[.int .u8 ((l.length:Int) / 256),.int .u8 ((l.length:Int) % 256)] 5)).cell? ⟨g,0,none⟩ = some (.slice A l.length c):=(HB0.o.cell (p:=⟨g,0,none⟩) hgl).trans HG.o
 clear gp hb HHead
 go_wp2
 go_loopw [3,29] (fun v3 vk wr=>∃ k:Nat,vk = .int .i64 k∧k ≤ l.length∧Hid (byteK.own 5 wr w.heap.size TT v3 (headN l.length ++ upTo l k)∧Below w.heap.size w wr)) (fun _ vk _=>l.length - (intOf vk).toNat)
 case atStart=>exact ⟨0,rfl,by omega,Zz ⟨by rw [HN0.o];exact HO0.o,HB0.o⟩⟩
 case round =>
  obtain ⟨k,rfl,hk,HI⟩:=hrel
  clear HO0 HB0 HN0 hg2
  obtain ⟨B1,hB1⟩:∃ B1,B1 = headN l.length ++ upTo l k:=⟨_,rfl⟩
  rw [← hB1] at HI
  have HBe:=Zz hB1
  clear hB1
  obtain ⟨A3,c3,rfl,_,_⟩:=Kd.own_slice HI.o.1
  by_cases hlt:k < l.length
  ·
   have hd:decide ((k:Int) < (l.length:Int)) = true:=dT (by omega)
   have hd2:decide (k < l.length) = true:=dT hlt
   have ik:(k:Int) < (l.length:Int):=by omega
   obtain ⟨b,off,rfl,_,hbs,hcells⟩:=HRow.o (by omega)
   have hcx:=(HI.o.2.cell (p:=⟨b,off + k,none⟩) hbs).trans (hcells k hlt)
   have hgr:=(HI.o.2.cell (p:=⟨g,0,none⟩) hgl).trans HG.o
   have hgx:=List.getD_eq_getElem?_getD (l:=l) (i:=k) (a:=[])
   rw [List.getElem?_eq_getElem hlt] at hgx
   have HGd:Hid (l.getD k [] = l[k]):=Zz hgx
   have hxs:=HS.o _ (List.getElem_mem hlt)
   obtain ⟨x,hx⟩:∃ x,x = l[k]:=⟨_,rfl⟩
   rw [← hx] at hcx HGd hxs
   have zx:=mkS_size x
   clear hgx
   by_cases h4:k % 4 = 0
   ·
    have hm4:((k:Int) % 4 != 0) = false:=by simp;omega
    have HO:Hid (outN l k = 0):=Zz (by unfold outN;rw [if_pos h4])
    obtain ⟨m,hmd⟩:∃ m,m = x.length - 0:=⟨_,rfl⟩
    have HO1:=Zz HI.o.1
    have HB1:=Zz HI.o.2
    clear hcells hx h4
    have hm:x.length - 0 = m:=hmd.symm
    have w1:IntKind.i64.wrap ((x.length:Int) - 0) = (m:Int):=by rw [IntKind.wrap_i64];omega
    have w2:(x.length:Int) - 0 = (m:Int):=by omega
    have HTwo:=Zz (fun W=>two_row W 0 m (by omega) (by omega))
    have hxe:(mkS x).extract 0 x.length = mkS x:=by rw [mkS_extract];congr 1;simp
    have hxe2:(mkS x).extract 0 (mkS x).size = mkS x:=by rw [zx];exact hxe
    have HPc:Hid (B1 ++ [UInt8.ofNat 0,UInt8.ofNat m] ++ x = headN l.length ++ upTo l (k + 1)):=Zz (by
     rw [HBe.o,upTo_succ,piece,HO.o,HGd.o,hm]
     simp)
    have HLen2:=Zz (HUp.o (k + 1) hlt)
    rw [← HPc.o] at HLen2
    have hl1:B1.length + 2 ≤ 100000:=by have:=HLen2.o;simp only [List.length_append,List.length_cons,List.length_nil] at this ⊢;omega
    obtain ⟨B2,hB2⟩:∃ B2,B2 = B1 ++ [UInt8.ofNat 0,UInt8.ofNat m]:=⟨_,rfl⟩
    rw [← hB2] at HPc HLen2
    have hl2:B2.length + x.length ≤ 100000:=by have:=HLen2.o;rw [List.length_append] at this;exact this
    have HB2e:=Zz hB2
    have HXE:=Zz hxe
    have HXE2:=Zz hxe2
    clear HLen2 hmd hm hB2 hxe hxe2
    go_wp2_with (at_builtin;first | (refine Kd.own_app byteK w.heap.size rfl (.tmp 47) (.tmp 55) 55 5 (.int .u8 0) 1 rfl Tryz.underlying55 PackW.info_u8 rfl (by decide) _ B1 [UInt8.ofNat 0,UInt8.ofNat m] (some ⟨wr.heap.size,0,none⟩) 2 TT (by rfl) (by rfl) (Kd.own_alloc HO1.o _) (.inr ⟨HTwo.o _,any_u8⟩) (bel_alloc HB1.o _) (by have:=HB1.o.size;simp;omega) (by simp;omega) ?_;intro v1 w8 ho1 hb1 hg1 hv1;clear hg1 hv1;rw [← HB2e.o] at ho1;have HO8:=Zz ho1;have HB8:=Zz hb1;clear ho1 hb1;obtain ⟨A8,c8,rfl,_,_⟩:=Kd.own_slice HO8.o) | (refine own_app_str rfl (.tmp 57) (.tmp 60) (by rfl) w.heap.size _ B2 x (by rfl) (by first | rfl | exact congrArg Value.string HXE.o | exact congrArg Value.string HXE2.o) HO8.o HB8.o HB8.o.size (by omega) ?_;intro v9 w9 ho2 hb2 hg2;clear hg2;rw [HPc.o] at ho2;have HO9:=Zz ho2;have HB9:=Zz hb2;clear ho2 hb2;obtain ⟨A9,c9,rfl,_,_⟩:=Kd.own_slice HO9.o))
    go_wp2
    go_roundw
    case rel=>exact ⟨k + 1,by go_num,by omega,Zz ⟨by have h:=HO9.o;rwa [List.length_append] at h,HB9.o⟩⟩
    case measure=>simp [intOf];omega
   ·
    have hm4:((k:Int) % 4 != 0) = true:=by simp;omega
    obtain ⟨j,hj⟩:∃ j,j = k - 1:=⟨_,rfl⟩
    have hwj:IntKind.i64.wrap ((k:Int) - 1) = (j:Int):=by rw [IntKind.wrap_i64];omega
    have ij:(j:Int) < (l.length:Int):=by omega
    have hjl:j < l.length:=by omega
    have hcy:=(HI.o.2.cell (p:=⟨b,off + j,none⟩) hbs).trans (hcells j hjl)
    have hgy:=List.getD_eq_getElem?_getD (l:=l) (i:=k - 1) (a:=[])
    rw [← hj,List.getElem?_eq_getElem hjl] at hgy
    have hys:=HS.o _ (List.getElem_mem hjl)
    obtain ⟨y,hy⟩:∃ y,y = l[j]:=⟨_,rfl⟩
    rw [← hy] at hcy hys
    have HC:=Zz (fun W=>shared_calls y x (by omega) (by omega) W)
    have hsr:=shared_right y x
    have HO:Hid (outN l k = shared y x):=Zz (by
     unfold outN
     rw [if_neg h4,HGd.o,← hj,hgy,hy]
     rfl)
    obtain ⟨n,hn⟩:∃ n,n = shared y x:=⟨_,rfl⟩
    rw [← hn] at HC HO hsr
    obtain ⟨m,hmd⟩:∃ m,m = x.length - n:=⟨_,rfl⟩
    have HI2:=Zz (fun W (h:Below wr.heap.size wr W)=>(⟨Kd.own_below HI.o.1 h,bel_step HI.o.2 h⟩:byteK.own 5 W w.heap.size TT (.slice A3 B1.length c3) B1∧Below w.heap.size w W))
    clear hcells hx h4 hy hgy hj hn
    go_wp2_with fail
    refine (HC.o _).mono ?_
    rintro e w7 ⟨rfl,hb⟩
    have HO1:=Zz (HI2.o w7 hb).1
    have HB1:=Zz (HI2.o w7 hb).2
    clear hb HC HI2
    have hm:x.length - n = m:=hmd.symm
    have w1:IntKind.i64.wrap ((x.length:Int) - n) = (m:Int):=by rw [IntKind.wrap_i64];omega
    have w2:(x.length:Int) - n = (m:Int):=by omega
    have HTwo:=Zz (fun W=>two_row W n m (by omega) (by omega))
    have hxe:(mkS x).extract n x.length = mkS (x.drop n):=by rw [mkS_extract];congr 1;rw [List.take_of_length_le (by rw [List.length_drop];omega)]
    have hxe2:(mkS x).extract n (mkS x).size = mkS (x.drop n):=by rw [zx];exact hxe
    have HPc:Hid (B1 ++ [UInt8.ofNat n,UInt8.ofNat m] ++ (x.drop n) = headN l.length ++ upTo l (k + 1)):=Zz (by
     rw [HBe.o,upTo_succ,piece,HO.o,HGd.o,hm]
     simp)
    have HLen2:=Zz (HUp.o (k + 1) hlt)
    rw [← HPc.o] at HLen2
    have hl1:B1.length + 2 ≤ 100000:=by have:=HLen2.o;simp only [List.length_append,List.length_cons,List.length_nil] at this ⊢;omega
    obtain ⟨B2,hB2⟩:∃ B2,B2 = B1 ++ [UInt8.ofNat n,UInt8.ofNat m]:=⟨_,rfl⟩
    rw [← hB2] at HPc HLen2
    have hl2:B2.length + (x.drop n).length ≤ 100000:=by have:=HLen2.o;rw [List.length_append] at this;exact this
    have HB2e:=Zz hB2
    obtain ⟨X,hX⟩:∃ X,X = (x.drop n):=⟨_,rfl⟩
    rw [← hX] at HPc hl2 hxe hxe2
    have HXE:=Zz hxe
    have HXE2:=Zz hxe2
    clear HLen2 hmd hm hB2 hX hxe hxe2
    go_wp2_with (at_builtin;first | (refine Kd.own_app byteK w.heap.size rfl (.tmp 47) (.tmp 55) 55 5 (.int .u8 0) 1 rfl Tryz.underlying55 PackW.info_u8 rfl (by decide) _ B1 [UInt8.ofNat n,UInt8.ofNat m] (some ⟨w7.heap.size,0,none⟩) 2 TT (by rfl) (by rfl) (Kd.own_alloc HO1.o _) (.inr ⟨HTwo.o _,any_u8⟩) (bel_alloc HB1.o _) (by have:=HB1.o.size;simp;omega) (by simp;omega) ?_;intro v1 w8 ho1 hb1 hg1 hv1;clear hg1 hv1;rw [← HB2e.o] at ho1;have HO8:=Zz ho1;have HB8:=Zz hb1;clear ho1 hb1;obtain ⟨A8,c8,rfl,_,_⟩:=Kd.own_slice HO8.o) | (refine own_app_str rfl (.tmp 57) (.tmp 60) (by rfl) w.heap.size _ B2 X (by rfl) (by first | rfl | exact congrArg Value.string HXE.o | exact congrArg Value.string HXE2.o) HO8.o HB8.o HB8.o.size (by omega) ?_;intro v9 w9 ho2 hb2 hg2;clear hg2;rw [HPc.o] at ho2;have HO9:=Zz ho2;have HB9:=Zz hb2;clear ho2 hb2;obtain ⟨A9,c9,rfl,_,_⟩:=Kd.own_slice HO9.o))
    go_wp2
    go_roundw
    case rel=>exact ⟨k + 1,by go_num,by omega,Zz ⟨by have h:=HO9.o;rwa [List.length_append] at h,HB9.o⟩⟩
    case measure=>simp [intOf];omega
  ·
   have hd:decide ((k:Int) < (l.length:Int)) = false:=dF (by omega)
   have hd2:decide (k < l.length) = false:=dF hlt
   obtain rfl:k = l.length:=by omega
   have HO1:=Zz HI.o.1
   have HB1:=Zz HI.o.2
   have HBf:Hid (frontB l = B1):=Zz HBe.o.symm
   clear HI
   go_wp2
   go_ret
   exact ⟨⟨_,rfl,by rw [HBf.o];exact HO1.o⟩,HB1.o⟩
end FrontW
set_option linter.unusedSectionVars false
namespace IdsW
open Go.RowKit Go.Lib B Rd OrdG StoreW IdsCmp TermW
structure Pat where
 a:Int
 b:Int
 c:Int
deriving DecidableEq
def Pat.at (p:Pat):Nat → Int
 | 0=>p.a
 | 1=>p.b
 | _=>p.c
def anyP:Pat:=⟨0,0,0⟩
def fitsB (n:Int) (x:Nat):Bool:=decide (n = 0) || decide (n = (x:Int))
def matchP (p:Pat) (x:Ids):Bool:=fitsB p.a x.a && fitsB p.b x.b && fitsB p.c x.c
theorem filter_any (l:List Ids):l.filter (matchP anyP) = l:=List.filter_eq_self.2 fun x _=>rfl
theorem match_no {p:Pat} {x:Ids} {k:Nat} (hk:k < 3) (h0:p.at k ≠ 0) (h1:p.at k ≠ (at3 x k:Nat)):matchP p x = false:=by
 unfold matchP fitsB
 match k,hk with
 | 0,_=>simp only [Pat.at,at3] at h0 h1;simp [h0,h1]
 | 1,_=>simp only [Pat.at,at3] at h0 h1;simp [h0,h1]
 | 2,_=>simp only [Pat.at,at3] at h0 h1;simp [h0,h1]
theorem match_yes {p:Pat} {x:Ids} (h:∀ k,k < 3 → p.at k = 0 ∨ p.at k = (at3 x k:Nat)):matchP p x = true:=by
 have a0:=h 0 (by decide)
 have a1:=h 1 (by decide)
 have a2:=h 2 (by decide)
 simp only [Pat.at,at3] at a0 a1 a2
 unfold matchP fitsB
 simp [a0,a1,a2]
def P3 (w:World) (g o:Nat) (p:Pat):Prop:=∀ k,k < 3 → w.cell? ⟨g,o + k,none⟩ = some (.int .i64 (p.at k))
def patL (p:Pat):List Value:=[.int .i64 p.a,.int .i64 p.b,.int .i64 p.c]
theorem P3.of {w:World} {g o:Nat} {x:Pat} (h:∀ j u,(patL x)[j]? = some u → w.cell? ⟨g,o + j,none⟩ = some u):P3 w g o x:=fun k hk=>by
 match k,hk with
 | 0,_=>exact h 0 _ rfl
 | 1,_=>exact h 1 _ rfl
 | 2,_=>exact h 2 _ rfl
theorem P3.lt {w:World} {g o:Nat} {x:Pat} (h:P3 w g o x):g < w.heap.size:=World.block_lt_of_cell? w ⟨g,o + 0,none⟩ (h 0 (by decide))
theorem P3.moved {w w':World} {g o:Nat} {x:Pat} (h:P3 w g o x) (hm:w'.heap[g]? = w.heap[g]?):P3 w' g o x:=fun k hk=>(World.cell?_of_block (a:=⟨g,o + k,none⟩) hm).trans (h k hk)
theorem P3.below {w w':World} {g o:Nat} {x:Pat} (h:P3 w g o x) (hb:Below w.heap.size w w'):P3 w' g o x:=h.moved (hb.block g h.lt)
theorem P3.new (w:World) (x:Pat):P3 (w.alloc (.cells (patL x).toArray 40)) w.heap.size 0 x:=P3.of fun j u hu=>by
 unfold World.cell?
 dsimp only
 rw [Kd.heap_new,Nat.zero_add]
 simpa using hu
def put3 (w:World) (g o:Nat) (t:Ids):World:=((w.setCell ⟨g,o,none⟩ (.int .i64 (t.a:Nat))).setCell ⟨g,o + 1,none⟩ (.int .i64 (t.b:Nat))).setCell ⟨g,o + 2,none⟩ (.int .i64 (t.c:Nat))
theorem put3_other (w:World) (g o:Nat) (t:Ids) (j:Nat) (h:j < o ∨ o + 3 ≤ j):(put3 w g o t).cell? ⟨g,j,none⟩ = w.cell? ⟨g,j,none⟩:=by
 unfold put3
 iterate 3 rw [World.cell?_setCell_other _ _ _ _ (by simp;try omega)]
theorem put3_frozen (w:World) (g o:Nat) (t:Ids) (a:Addr):(put3 w g o t).frozen? a = w.frozen? a:=by
 unfold put3
 iterate 3 rw [World.frozen?_setCell]
theorem put3_grown (w:World) (g o:Nat) (t:Ids):w.grownBy (put3 w g o t) (some g):=by
 unfold put3
 iterate 3 refine TermW.set_grown ?_ _ _
 exact World.grownBy.refl _ _
theorem put3_same {w:World} {g o:Nat} {t0:Ids} (h:I3 w g o t0) (t:Ids):I3 (put3 w g o t) g o t:=by
 have s0:(w.cell? ⟨g,o,none⟩).isSome = true:=by have:=h 0 (by decide);rw [Nat.add_zero] at this;rw [this];rfl
 have s1:(w.cell? ⟨g,o + 1,none⟩).isSome = true:=by rw [h 1 (by decide)];rfl
 have s2:(w.cell? ⟨g,o + 2,none⟩).isSome = true:=by rw [h 2 (by decide)];rfl
 unfold put3
 intro k hk
 match k,hk with
 | 0,_ =>
  rw [Nat.add_zero]
  iterate 2 rw [World.cell?_setCell_other _ _ _ _ (by simp)]
  exact TermW.same_of s0
 | 1,_ =>
  iterate 1 rw [World.cell?_setCell_other _ _ _ _ (by simp)]
  exact TermW.same_of (TermW.some_set s1)
 | 2,_=>exact TermW.same_of (TermW.some_set (TermW.some_set s2))
structure IR (W:World) (g:Nat) (l:List Ids) (w:World):Prop where
 grown:W.grownBy w (some g)
 cells:∀ i (h:i < l.length),I3 w g (i * 3) l[i]
 free:∀ j,j < l.length * 3 → w.frozen? ⟨g,j,none⟩ = false
theorem IR.drewN {W w:World} {g:Nat} {l:List Ids} (h:IR W g l w) (n:Nat):IR W g l (w.drewN n):=
 ⟨⟨h.grown.os,h.grown.tape,h.grown.output,h.grown.size,h.grown.block⟩,fun i hi=>(h.cells i hi).moved rfl,h.free⟩
theorem IR.below {W w w':World} {g:Nat} {l:List Ids} (h:IR W g l w) (hg:g < w.heap.size) (hb:Below w.heap.size w w'):IR W g l w':=
 ⟨h.grown.trans ⟨hb.os,hb.tape,hb.output,hb.size,fun k hk _=>hb.block k hk⟩,fun i hi=>(h.cells i hi).below hb,fun j hj=>(hb.frozen (p:=⟨g,j,none⟩) hg).trans (h.free j hj)⟩
theorem IR.at {W w:World} {g:Nat} {l:List Ids} (h:IR W g l w) {q:Nat} {x:Ids} (hx:l[q]? = some x):I3 w g (q * 3) x:=by
 obtain ⟨hi,rfl⟩:=List.getElem?_eq_some_iff.1 hx
 exact h.cells q hi
theorem IR.set {W w:World} {g:Nat} {l:List Ids} (h:IR W g l w) (i:Nat) (hi:i < l.length) (x:Ids):IR W g (l.set i x) (put3 w g (i * 3) x):=by
 refine ⟨h.grown.trans (put3_grown _ _ _ _),fun k hk=>?_,fun q hq=>?_⟩
 ·
  have hk':k < l.length:=by rw [List.length_set] at hk;exact hk
  by_cases e:k = i
  ·
   subst e
   rw [List.getElem_set_self]
   exact put3_same (h.cells k hk') _
  ·
   rw [List.getElem_set_ne (fun h=>e h.symm)]
   have hc:=h.cells k hk'
   exact fun d hd=>(put3_other _ _ _ _ _ (by omega)).trans (hc d hd)
 ·
  rw [put3_frozen]
  rw [List.length_set] at hq
  exact h.free q hq
theorem IR.of_own {w:World} {base:Nat} {ok:Nat → Prop} {v:Value} {l:List Ids} (h:idsK.own 40 w base ok v l) (hp:0 < l.length) :
  ∃ g cap,v = .slice (some ⟨g,0,none⟩) l.length cap∧base ≤ g∧g < w.heap.size∧l.length ≤ cap∧cap ≤ maxLen∧IR w g l w:=by
 obtain ⟨_,cells,ho,hr⟩:=h
 have ho':=ho
 rcases ho'.2 with ⟨_,h0⟩ | ⟨g,cap,cur,rfl,hg,hh,hnc,hcm,hcs,htake⟩
 ·
  omega
 ·
  have hlt:g < w.heap.size:=(Array.getElem?_eq_some_iff.1 hh).1
  refine ⟨g,cap,rfl,hg,hlt,hnc,hcm,World.grownBy.refl _ _,fun i hi=>?_,fun j hj=>?_⟩
  ·
   obtain ⟨hc,_⟩:=hr i l[i] (List.getElem?_eq_getElem hi)
   refine I3.of fun j u hu=>?_
   rw [← hc] at hu
   have:=ho.cells rfl _ _ (Kd.take_drop_get hu)
   rw [add_plain] at this
   exact this
  ·
   unfold World.frozen?
   dsimp only
   rw [hh]
   simp
theorem IR.sl {W w:World} {g cap:Nat} {l:List Ids} (h:IR W g l w) (hf:∀ t ∈ l,FitsI t) (hl:l.length ≤ 140737488355328) (hc:l.length ≤ cap) (hcm:cap ≤ maxLen) (ok:Nat → Prop) (hok:ok g) :
  idsK.sl.M w ok l [.slice (some ⟨g,0,none⟩) l.length cap]:=by
 refine ⟨some ⟨g,0,none⟩,cap,rfl,hc,⟨hl,hcm⟩,fun h=>(by cases h),fun i x hx=>?_⟩
 obtain ⟨hi,rfl⟩:=List.getElem?_eq_some_iff.1 hx
 refine ⟨_,idsL l[i],rfl,hok,⟨rfl,hf _ (List.getElem_mem hi)⟩,fun j u hu=>?_⟩
 rw [add_plain]
 have hc3:=h.cells i hi
 have hj:j < 3:=(List.getElem?_eq_some_iff.1 hu).1
 match j,hj with
 | 0,_=>cases hu;exact hc3 0 (by decide)
 | 1,_=>cases hu;exact hc3 1 (by decide)
 | 2,_=>cases hu;exact hc3 2 (by decide)
section
variable {α : Type} [DecidableEq α] {f : α → Bool}
structure FI (f:α → Bool) (R l':List α) (L k j:Nat):Prop where
 len:l'.length = L
 head:l'.take k = (R.take j).filter f
 tail:∀ q,j ≤ q → l'[q]? = R[q]?
theorem FI.start {R:List α} {L k:Nat} (hL:R.length = L) (hk:k < L) (hy:∀ i (h:i < R.length),i < k → f R[i] = true) (hn:f (R[k]'(by omega)) = false):FI f R R L k (k + 1):=by
 refine ⟨hL,?_,fun q _=>rfl⟩
 rw [List.take_succ_eq_append_getElem (by omega),List.filter_append,List.filter_cons,hn]
 simp only [List.filter_nil]
 rw [if_neg (by simp),List.append_nil]
 exact (List.filter_eq_self.2 fun x hx=>by
  obtain ⟨i,hi,rfl⟩:=List.mem_take_iff_getElem.1 hx
  exact hy i (by omega) (by omega)).symm
theorem FI.drop {R l':List α} {L k j:Nat} (h:FI f R l' L k j) (hL:R.length = L) (hj:j < L) (hn:f (R[j]'(by omega)) = false):FI f R l' L k (j + 1):=
 ⟨h.len,by
  rw [List.take_succ_eq_append_getElem (by omega),List.filter_append,List.filter_cons,hn,h.head]
  simp,fun q hq=>h.tail q (by omega)⟩
theorem FI.put {R l':List α} {L k j:Nat} (h:FI f R l' L k j) (hL:R.length = L) (hkj:k < j) (hj:j < L) (hy:f (R[j]'(by omega)) = true):FI f R (l'.set k (R[j]'(by omega))) L (k + 1) (j + 1):=
 ⟨by rw [List.length_set];exact h.len,by
  rw [List.take_succ_eq_append_getElem (l:=R) (by omega),List.filter_append,List.filter_cons,hy,TermW.take_set_lt _ _ _ (by rw [h.len];omega),h.head]
  simp,fun q hq=>by rw [List.getElem?_set_ne (by omega)];exact h.tail q (by omega)⟩
end
theorem run_cutk (w:World) (g L cap k:Nat) (hk:k < L) (hc:L ≤ cap):(Instr.slice 48 (.slice (some ⟨g,0,none⟩) L cap) (some (.int .i64 (k:Int))) none none).run Tryz.prog w = .ok (.slice (some ⟨g,k * 3,none⟩) (L - k) (cap - k)) w:=by
 have hu:(Tryz.prog).underlying 48 = some (.slice ((Tryz.prog).elem 48)):=by
  have:=Tryz.underlying48
  simp [Program.elem,this]
 have hs:∀ w,(sizeOf 40).run Tryz.prog w = .ok 3 w:=Tryz.sizeOf40
 have he:(Tryz.prog).elem 48 = 40:=by simp [Program.elem,Tryz.underlying48]
 rw [run_slice_l w _ _ L cap hu .i64 (k:Int) (by omega) (by omega),he,hs]
 have:¬ cap = k:=by omega
 simp [sliced,Result.andThen,this,Addr.add_lit]
theorem run_takek (w:World) (g L cap k:Nat) (hk:k ≤ L) (hk0:0 < L) (hc:L ≤ cap):(Instr.slice 48 (.slice (some ⟨g,0,none⟩) L cap) none (some (.int .i64 (k:Int))) none).run Tryz.prog w = .ok (.slice (some ⟨g,0,none⟩) k cap) w:=by
 have hu:(Tryz.prog).underlying 48 = some (.slice ((Tryz.prog).elem 48)):=by
  have:=Tryz.underlying48
  simp [Program.elem,this]
 have hs:∀ w,(sizeOf 40).run Tryz.prog w = .ok 3 w:=Tryz.sizeOf40
 have he:(Tryz.prog).elem 48 = 40:=by simp [Program.elem,Tryz.underlying48]
 rw [run_slice_h w _ _ L cap hu .i64 (k:Int) (by omega) (by omega),he,hs]
 have:¬ cap = 0:=by omega
 simp [sliced,Result.andThen,this,Addr.add_lit]
theorem run_idx0 (a b c:Int) (w:World):(Instr.index 40 (.agg #[.int .i64 a,.int .i64 b,.int .i64 c]) (.int .i64 0)).run Tryz.prog w = .ok (.int .i64 a) w:=by
 have h:=Tryz.underlying40
 have hs:=Tryz.sizeOf3
 simp [Instr.index,run_underlying h,asIntOf,go_sem]
theorem run_idx1 (a b c:Int) (w:World):(Instr.index 40 (.agg #[.int .i64 a,.int .i64 b,.int .i64 c]) (.int .i64 1)).run Tryz.prog w = .ok (.int .i64 b) w:=by
 have h:=Tryz.underlying40
 have hs:=Tryz.sizeOf3
 simp [Instr.index,run_underlying h,asIntOf,go_sem]
theorem run_idx2 (a b c:Int) (w:World):(Instr.index 40 (.agg #[.int .i64 a,.int .i64 b,.int .i64 c]) (.int .i64 2)).run Tryz.prog w = .ok (.int .i64 c) w:=by
 have h:=Tryz.underlying40
 have hs:=Tryz.sizeOf3
 simp [Instr.index,run_underlying h,asIntOf,go_sem]
def zeroV:Value:=.agg #[.int .i64 0,.int .i64 0,.int .i64 0]
theorem zeroCells_len (n:Nat):(Builtin.zeroCells zeroV.cells n).toList.length = n * 3:=by
 simp [Builtin.zeroCells,zeroV,Value.cells]
theorem zeroCells_one (n:Nat):∀ v ∈ (Builtin.zeroCells zeroV.cells n).toList,v.oneCell' = true:=by
 intro v hv
 have key:∀ k:Nat,k < 3 → ((zeroV.cells)[k]!).oneCell' = true:=by decide
 simp [Builtin.zeroCells] at hv
 obtain ⟨i,hi,rfl⟩:=hv
 exact key _ (Nat.mod_lt _ (by decide))
theorem run_clear (w:World) (ty:TypeId) (b o n c:Nat) (hn:0 < n) (hc:∀ j,j < n * 3 → (w.cell? ⟨b,o + j,none⟩).isSome = true) (hf:∀ j,j < n * 3 → w.frozen? ⟨b,o + j,none⟩ = false) :
  (Builtin.clear_ #[48] ty #[.slice (some ⟨b,o,none⟩) n c]).run Tryz.prog w = .ok (.tuple #[]) (w.setCells b o (Builtin.zeroCells zeroV.cells n).toList):=by
 have hv:∀ w,(zeroValue 40).run Tryz.prog w = .ok zeroV w:=Tryz.zeroValue40
 have hst:=run_storeCells_cells (P:=Tryz.prog) b o (Builtin.zeroCells zeroV.cells n).toList 0 w (by rw [zeroCells_len];simpa using hc) (by rw [zeroCells_len];simpa using hf) (zeroCells_one n)
 simp only [Nat.add_zero] at hst
 obtain ⟨m,rfl⟩:∃ m,n = m + 1:=⟨n - 1,by omega⟩
 simp only [Builtin.clear_]
 simp [run_underlying Tryz.underlying48,hv,hst]
end IdsW
end Go.Proofs.YtnplommdgfgboaaGreatDoor
