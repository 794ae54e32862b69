/-
  Texts of the claim, one behind the other: SOwn.
-/
import Derived.Test.YtnplommdgfgboaaGreatDoorL1
set_option linter.unusedVariables false
set_option linter.unusedSimpArgs false
namespace Go.Proofs.YtnplommdgfgboaaGreatDoor.SOwn
open Go.RowKit Go.Lib B Rd TermPure LinesPure Tri SortP OrdG Print Cmp Long Long11 StoreW StoreM Env ParseP Parse ParseOk SPrint StoreP Encode SortW SCommon RefOf Go.Proofs.YtnplommdgfgboaaGreatDoor.Alike
theorem own_first {α:Type} {d:Kd α} {e:TypeId} {w:World} {base:Nat} {ok:Nat → Prop} {A:Option Addr} {n c:Nat} {xs:List α} (h:d.own e w base ok (.slice A n c) xs) (hp:0 < xs.length) :
  ∃ g,A = some ⟨g,0,none⟩∧base ≤ g∧g < w.heap.size∧(∀ j,w.frozen? ⟨g,j,none⟩ = false)∧∀ j,j < d.sz → ∃ u,w.cell? ⟨g,j,none⟩ = some u:=by
 obtain ⟨hlen,cells,ho,hr⟩:=h
 have ho':=ho
 rcases ho.2 with ⟨_,h0⟩ | ⟨g,cap,cur,he,hg,hh,hnc,hcm,hcs,htake⟩
 ·
  omega
 ·
  obtain ⟨rfl,_,_⟩:A = some ⟨g,0,none⟩∧n = xs.length∧c = cap:=by simpa using he
  refine ⟨g,rfl,hg,(Array.getElem?_eq_some_iff.1 hh).1,fun j=>?_,fun j hj=>?_⟩
  ·
   unfold World.frozen?
   dsimp only
   rw [hh]
   try rfl
  ·
   have hx:xs[0]? = some xs[0]:=List.getElem?_eq_getElem hp
   have hM:=hr 0 xs[0] hx
   have hl:=d.len hM
   obtain ⟨u,hu⟩:∃ u,((cells.drop (0 * d.sz)).take d.sz)[j]? = some u:=⟨_,List.getElem?_eq_getElem (by rw [hl];exact hj)⟩
   have:=ho'.cells rfl _ _ (Kd.take_drop_get hu)
   refine ⟨u,?_⟩
   rw [add_plain] at this
   simpa using this
set_option maxHeartbeats 12800000 in
set_option maxRecDepth 100000 in
theorem walk0 (w:World) (he:Env w) (l:List Triple) (A:Option Addr) (c:Nat) (HL:triK.sl.M w (fun k=>k < w.heap.size) l [.slice A l.length c]) :
  Calls Tryz.prog 9 #[.slice A l.length c] w fun e w'=>e = .returned (.bool true)∧Below w.heap.size w w':=by
 have HROW:Hid (∀ w',Below w.heap.size w w' → triK.sl.M w' (fun k=>k < w'.heap.size) l [.slice A l.length c]):=Lib.hid (fun w' hb=>triK.sl.mono (fun k _ hk=>hk) (Kd.M_below HL hb))
 have HE:=Lib.hid he
 have HLg:=Lib.hid (Long11.long_calls l A c w he (HROW.out w (Below.refl _ _)))
 have h47:=sl_len HL
 clear HL he
 go_enter Tryz.func9,Tryz.ntmps9
 by_cases hlook:looked l = true
 case neg =>
  have hl2:looked l = false:=by simpa using hlook
  rw [hl2] at HLg
  clear hlook hl2
  go_wp2_with fail
  refine HLg.out.mono ?_
  rintro e w2 ⟨rfl,hb⟩
  have HB:=Lib.hid hb
  clear hb
  go_wp2
  go_ret
  exact ⟨rfl,HB.out⟩
 have HTot:=Lib.hid (looked_total hlook)
 have HV:Hid (Valid l):=Lib.hid (looked_valid hlook)
 rw [hlook] at HLg
 clear hlook
 go_wp2_with fail
 refine HLg.out.mono ?_
 rintro e w2 ⟨rfl,hb⟩
 have HB2:=Lib.hid hb
 clear hb HLg
 by_cases h30:30 < l.length
 ·
  have hd2:decide ((30:Int) < (l.length:Int)) = true:=decide_eq_true (by omega)
  go_wp2
  go_ret
  exact ⟨rfl,HB2.out⟩
 have hd30:decide ((30:Int) < (l.length:Int)) = false:=decide_eq_false (by omega)
 by_cases h00:l.length = 0
 ·
  have hd2:((l.length:Int) == 0) = true:=by rw [h00];rfl
  have HZ:=Lib.hid h00
  have h01:l.length < 1:=by omega
  clear h00
  go_wp2
  go_ret
  exact ⟨rfl,HB2.out⟩
 have hd0:((l.length:Int) == 0) = false:=by simp;intro h;subst h;exact h00 rfl
 have hpos:0 < l.length:=by omega
 have HL30:Hid (l.length ≤ 30):=Lib.hid (by omega)
 have HSm:=Lib.hid (small_of HTot.out)
 have HFl:Hid ((l.flatMap lineN).length ≤ 130000):=Lib.hid (flat_valid HV.out (by omega))
 have HPr:=Lib.hid (fun W hb=>SortW.refprint_calls l A c W (HROW.out W hb) HSm.out (by have:=HFl.out;omega))
 obtain ⟨x,hx⟩:∃ x,x = l.flatMap lineN:=⟨_,rfl⟩
 have hxl:x.length ≤ 130000:=by rw [hx];exact HFl.out
 have HX:=Lib.hid hx
 rw [← hx] at HPr
 have HP:=Lib.hid (HPr.out w2 HB2.out)
 clear hx h30 h00
 have zx:=mkS_size x
 go_wp2_with fail
 refine HP.out.mono ?_
 rintro e w3 ⟨rfl,hb⟩
 have HB3:=Lib.hid (bel_step HB2.out hb)
 have HP3:=Lib.hid (HPr.out w3 HB3.out)
 clear hb HP hd30 hd0
 by_cases hbig:20000 < x.length
 ·
  have hd2:decide ((20000:Int) < (x.length:Int)) = true:=decide_eq_true (by omega)
  go_wp2
  go_ret
  exact ⟨rfl,HB3.out⟩
 have hd20:decide ((20000:Int) < (x.length:Int)) = false:=decide_eq_false (by omega)
 go_wp2_with fail
 refine HP3.out.mono ?_
 rintro e w4 ⟨rfl,hb⟩
 have HB4:=Lib.hid (bel_step HB3.out hb)
 have HLd:=Lib.hid (load_print l HV.out (by have:=HL30.out;omega) x HX.out (by omega) w4 (HE.out.below HB4.out))
 clear hb HP3
 go_wp2_with fail
 refine HLd.out.mono ?_
 rintro e w5 ⟨⟨ga,rfl,hS⟩,hb⟩
 have HB5:=Lib.hid (bel_step HB4.out hb)
 have HSa5:=Lib.hid hS
 have HVs:Hid (Valid (sortT l)):=Lib.hid (ParseOk.sortT_valid HV.out)
 have HLs:Hid ((sortT l).length ≤ 100):=Lib.hid (Nat.le_trans (ParseOk.sortT_len l) (by have:=HL30.out;omega))
 have HTp:Hid (0 < (sortT l).length):=Lib.hid (List.length_pos_of_mem ((SortP.sortT_mem HV.out l[0]).2 (List.getElem_mem hpos)))
 have HEp:Hid (0 < (termsT (sortT l)).length):=Lib.hid (by
  obtain ⟨m1,_,_⟩:=mem_three (List.getElem_mem HTp.out)
  exact List.length_pos_of_mem ((termsT_mem HVs.out _).2 m1))
 have HEc:Hid (9 ≤ (encT (sortT l)).length):=Lib.hid (by unfold encT;rw [BoxPure.file_length];omega)
 obtain ⟨T,hT⟩:∃ T,T = sortT l:=⟨_,rfl⟩
 have HTe:=Lib.hid hT
 rw [← hT] at HVs HLs HSa5 HTp HEp HEc
 have HEl:=Lib.hid (E_len HVs.out HLs.out)
 have HEn:=Lib.hid (encode_calls T HVs.out HLs.out ga w5 _ HSa5.out)
 have HTr:=Lib.hid (fun W (hb:Below w5.heap.size w5 W)=>triples_calls T HLs.out ga W _ (HSa5.out.below hb))
 have HTm:=Lib.hid (fun W (hb:Below w5.heap.size w5 W)=>terms_calls T HEl.out ga W _ (HSa5.out.below hb))
 clear hS hb HLd hxl zx hbig hd20 hT HPr HX HFl
 dsimp only
 go_wp2_with fail
 refine HEn.out.mono ?_
 rintro e w6 ⟨⟨v6,rfl,ho6⟩,hb6⟩
 have HO6:=Lib.hid ho6
 have HB56:=Lib.hid hb6
 obtain ⟨A6,c6,rfl,_,_⟩:=Kd.own_slice ho6
 clear ho6 hb6 HEn
 go_wp2_with fail
 refine (HTr.out w6 HB56.out).mono ?_
 rintro e w7 ⟨⟨v7,rfl,ho7⟩,hb7⟩
 have HO67:=Lib.hid (Kd.own_below HO6.out hb7)
 have HO7:=Lib.hid ho7
 have HB57:=Lib.hid (bel_step HB56.out hb7)
 obtain ⟨A7,c7,rfl,_,_⟩:=Kd.own_slice ho7
 have HZ67:=Lib.hid hb7.size
 clear ho7 hb7 HTr
 go_wp2_with fail
 refine (HTm.out w7 HB57.out).mono ?_
 rintro e w8 ⟨⟨v8,rfl,ho8⟩,hb8⟩
 have HO68:=Lib.hid (Kd.own_below HO67.out hb8)
 have HO78:=Lib.hid (Kd.own_below HO7.out hb8)
 have HB58:=Lib.hid (bel_step HB57.out hb8)
 obtain ⟨A8,c8,rfl,_,_⟩:=Kd.own_slice ho8
 obtain ⟨g6,rfl,l6,u6,f6,k6⟩:=own_first HO68.out (by have:=HEc.out;omega)
 obtain ⟨g7,rfl,l7,u7,f7,k7⟩:=own_first HO78.out HTp.out
 obtain ⟨g8,rfl,l8,u8,f8,k8⟩:=own_first ho8 HEp.out
 have h6lt:g6 < w6.heap.size:=by
  have h:=Kd.own_lt HO6.out g6 rfl
  exact h.2
 have h7lt:g7 < w7.heap.size:=by
  have h:=Kd.own_lt HO7.out g7 rfl
  exact h.2
 have n67:¬ g6 = g7:=by omega
 have n76:¬ g7 = g6:=by omega
 have n68:¬ g6 = g8:=by have:=HZ67.out;omega
 have n86:¬ g8 = g6:=by have:=HZ67.out;omega
 have n78:¬ g7 = g8:=by omega
 have n87:¬ g8 = g7:=by omega
 have L6:Hid (w5.heap.size ≤ g6):=Lib.hid l6
 have L7:Hid (w5.heap.size ≤ g7):=Lib.hid (Nat.le_trans HB56.out.size l7)
 have L8:Hid (w5.heap.size ≤ g8):=Lib.hid (Nat.le_trans HB57.out.size l8)
 have q6:(0:Int) < ((encT T).length:Int):=by have:=HEc.out;omega
 have q7:(0:Int) < (T.length:Int):=by have:=HTp.out;omega
 have q8:(0:Int) < ((termsT T).length:Int):=by have:=HEp.out;omega
 have r6:(((encT T).length:Int) == 0) = false:=by simp;intro h;rw [h] at q6;simp at q6
 have r7:((T.length:Int) == 0) = false:=by simp;intro h;rw [h] at q7;simp at q7
 have r8:(((termsT T).length:Int) == 0) = false:=by simp;intro h;rw [h] at q8;simp at q8
 obtain ⟨a0,ha0⟩:=k6 0 (by decide)
 obtain ⟨b0,hb0⟩:=k7 0 (by decide)
 obtain ⟨b1,hb1⟩:=k7 1 (by decide)
 obtain ⟨b2,hb2⟩:=k7 2 (by decide)
 obtain ⟨b3,hb3⟩:=k7 3 (by decide)
 obtain ⟨b4,hb4⟩:=k7 4 (by decide)
 obtain ⟨b5,hb5⟩:=k7 5 (by decide)
 obtain ⟨b6,hb6⟩:=k7 6 (by decide)
 obtain ⟨b7,hb7⟩:=k7 7 (by decide)
 obtain ⟨b8,hb8'⟩:=k7 8 (by decide)
 obtain ⟨d0,hd0⟩:=k8 0 (by decide)
 obtain ⟨d1,hd1⟩:=k8 1 (by decide)
 obtain ⟨d2,hd2⟩:=k8 2 (by decide)
 clear ho8 hb8 HTm k6 k7 k8 l6 l7 l8 u6 u7 u8 h6lt h7lt HO6 HO67 HO7 HO68 HO78 HZ67
 generalize (encT T).length = m6 at *
 generalize (termsT T).length = m8 at *
 go_upto_region 10 with fail
 have hc9:Below w5.heap.size w5 (((((((((((((w8.setCell ⟨g6,0,none⟩ (.int .u8 0)).setCell ⟨g7,0,none⟩ (.int .i64 0)).setCell ⟨g7,1,none⟩ (.string ⟨#[]⟩)).setCell ⟨g7,2,none⟩ (.string ⟨#[]⟩)).setCell ⟨g7,3,none⟩ (.int .i64 0)).setCell ⟨g7,4,none⟩ (.string ⟨#[]⟩)).setCell ⟨g7,5,none⟩ (.string ⟨#[]⟩)).setCell ⟨g7,6,none⟩ (.int .i64 0)).setCell ⟨g7,7,none⟩ (.string ⟨#[]⟩)).setCell ⟨g7,8,none⟩ (.string ⟨#[]⟩)).setCell ⟨g8,0,none⟩ (.int .i64 0)).setCell ⟨g8,1,none⟩ (.string ⟨#[]⟩)).setCell ⟨g8,2,none⟩ (.string ⟨#[]⟩)):=by
  refine bel_set ?_ L8.out _
  refine bel_set ?_ L8.out _
  refine bel_set ?_ L8.out _
  iterate 9 (refine bel_set ?_ L7.out _)
  exact bel_set HB58.out L6.out _
 obtain ⟨w9,hw9⟩:∃ w9,w9 = (((((((((((((w8.setCell ⟨g6,0,none⟩ (.int .u8 0)).setCell ⟨g7,0,none⟩ (.int .i64 0)).setCell ⟨g7,1,none⟩ (.string ⟨#[]⟩)).setCell ⟨g7,2,none⟩ (.string ⟨#[]⟩)).setCell ⟨g7,3,none⟩ (.int .i64 0)).setCell ⟨g7,4,none⟩ (.string ⟨#[]⟩)).setCell ⟨g7,5,none⟩ (.string ⟨#[]⟩)).setCell ⟨g7,6,none⟩ (.int .i64 0)).setCell ⟨g7,7,none⟩ (.string ⟨#[]⟩)).setCell ⟨g7,8,none⟩ (.string ⟨#[]⟩)).setCell ⟨g8,0,none⟩ (.int .i64 0)).setCell ⟨g8,1,none⟩ (.string ⟨#[]⟩)).setCell ⟨g8,2,none⟩ (.string ⟨#[]⟩)):=⟨_,rfl⟩
 rw [← hw9] at hc9
 rw [← hw9]
 have HB59:=Lib.hid hc9
 have HB9:=Lib.hid (bel_step HB5.out hc9)
 have HS1:=Lib.hid (SortW.refsort_calls l A c w9 (HROW.out w9 HB9.out) HSm.out (by have:=HL30.out;omega))
 clear hw9 hc9 ha0 hb0 hb1 hb2 hb3 hb4 hb5 hb6 hb7 hb8' hd0 hd1 hd2 f6 f7 f8 HB58 HB57 HB56 L6 L7 L8
 rw [← HTe.out] at HS1
 go_wp2_with fail
 refine HS1.out.mono ?_
 rintro e w10 ⟨A10,c10,rfl,hM10,hb⟩
 have HB510:=Lib.hid (bel_step HB59.out hb)
 have HOf:=Lib.hid (of_calls T HVs.out HLs.out A10 c10 w10 (Kd.M_bound hM10))
 clear hb hM10 HS1
 go_wp2_with fail
 refine HOf.out.mono ?_
 rintro e w11 ⟨⟨gr,rfl,hR⟩,hb⟩
 have HB511:=Lib.hid (bel_step HB510.out hb)
 have HAl:=Lib.hid (alike_calls T HVs.out HLs.out ga gr w11 (HSa5.out.below HB511.out) hR)
 clear hb hR HOf
 go_wp2_with fail
 refine HAl.out.mono ?_
 rintro e w12 ⟨rfl,hb⟩
 have HB12:=Lib.hid (bel_step HB5.out (bel_step HB511.out hb))
 have HK:=Lib.hid (Known11.known_calls w12 (HE.out.below HB12.out))
 clear hb HAl
 go_wp2_with fail
 refine HK.out.mono ?_
 rintro e w13 ⟨rfl,hb⟩
 have HB13:=Lib.hid (bel_step HB12.out hb)
 clear hb HK
 go_wp2
 go_ret
 exact ⟨rfl,HB13.out⟩
theorem walk (w:World) (he:Env w) (l:List Triple) (v:Value) (m:triK.sl.M w (fun _=>True) l [v]) :
  Calls Tryz.prog 9 #[v] w fun e w'=>e = .returned (.bool true)∧Below w.heap.size w w':=by
 obtain ⟨A,c,hv,h⟩:=id m
 obtain rfl:v = .slice A l.length c:=by simpa using hv
 exact walk0 w he l A c (triK.sl.mono (fun k _ hk=>hk) m)
end Go.Proofs.YtnplommdgfgboaaGreatDoor.SOwn
