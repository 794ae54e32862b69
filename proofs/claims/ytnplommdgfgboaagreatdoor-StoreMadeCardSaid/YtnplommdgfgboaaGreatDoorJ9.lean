/-
  Texts of the claim, one behind the other: Alike, ChunkW, TripA, TripK, ReadP, UnpP, DecP, TermEnd, RefTerm, RefTerms, RefTrip, TripC, TripP, DictW, ShownW, TripW.
-/
import Derived.Test.YtnplommdgfgboaaGreatDoorJ8
import Derived.RangeFuncNested
import Derived.RangeFuncBound
import Derived.RangeFuncCalls
import Derived.RangeFuncLeaves
import Derived.RangeFuncBox
import Derived.Shelf.Abstract
import Derived.Shelf.RegionOpen
import Derived.WalkKit
import Derived.OwnWalkIn
import Derived.TacticsInMore
import Derived.LoopNIn
import Derived.LoopIn
import Derived.Test.YtnplommdgfgboaaGreatDoorProg
set_option linter.unusedVariables false
set_option linter.unusedSimpArgs false
set_option maxHeartbeats 25600000
set_option maxRecDepth 100000
open Go.Proofs.Tryz
namespace Go.Proofs.YtnplommdgfgboaaGreatDoor
namespace Alike
open Go.RowKit Go.Lib B Rd TermPure LinesPure Tri SortP OrdG TermW Print Cmp Long StoreW StoreM ParseP Parse ParseOk SPrint StoreP Encode SortW SCommon IdsW IdsAll RefOf Search
theorem ref_below {w w1:World} {g:Nat} {T:List Triple} (h:RefAt w (fun _=>True) g T) (hb:Below w.heap.size w w1):RefAt w1 (fun _=>True) g T:=by
 obtain ⟨⟨A0,c0,h0,m0⟩,⟨A1,c1,h1,m1⟩,⟨A2,c2,h2,m2⟩,⟨A3,c3,h3,m3⟩⟩:=h;exact ⟨⟨A0,c0,(hb.cell (p:=⟨g,0,none⟩) (cell_lt h0)).trans h0,triK.sl.mono (fun _ _ _=>trivial) (Kd.M_below (Kd.M_bound m0) hb)⟩,
  ⟨A1,c1,(hb.cell (p:=⟨g,1,none⟩) (cell_lt h1)).trans h1,termK.sl.mono (fun _ _ _=>trivial) (Kd.M_below (Kd.M_bound m1) hb)⟩,
  ⟨A2,c2,(hb.cell (p:=⟨g,2,none⟩) (cell_lt h2)).trans h2,strK.sl.mono (fun _ _ _=>trivial) (Kd.M_below (Kd.M_bound m2) hb)⟩,
  ⟨A3,c3,(hb.cell (p:=⟨g,3,none⟩) (cell_lt h3)).trans h3,idsK.sl.mono (fun _ _ _=>trivial) (Kd.M_below (Kd.M_bound m3) hb)⟩⟩
structure AL (w wr:World) (gs gx:Nat) (T:List Triple):Prop where
 bel:Below w.heap.size w wr
 st:StoreAt wr (fun _=>True) gs T
 rf:RefAt wr (fun _=>True) gx T
theorem AL.below {w wr w1:World} {gs gx:Nat} {T:List Triple} (h:AL w wr gs gx T) (hb:Below wr.heap.size wr w1):AL w w1 gs gx T:=
 ⟨bel_step h.bel hb,h.st.below hb,ref_below h.rf hb⟩
theorem AL.id {w wr:World} {gs gx:Nat} {T:List Triple} (h:AL w wr gs gx T) (hv:Valid T) (hE:(termsT T).length <= 300) (y:Term) (hy:SmallM y) :
  Calls Tryz.prog 18 #[.pointer (some ⟨gs,0,none⟩),Ref5.termV y] wr fun e w'=>e = .returned (.int .i64 (idOf (termsT T) y:Nat))/\Below wr.heap.size wr w':=by
 obtain ⟨_,_,⟨A',c',hc,hM⟩,_⟩:=h.st;exact id_calls (termsT T) y (termsT_rise hv) (fun x hx=>by have:=is_small (termsT_is hv x hx);unfold SmallM;omega) hy gs A' c' wr hc (Kd.M_bound hM) (by omega)
theorem idOf_at {l:List Term} (hr:l.Pairwise ltTm) (i:Nat) (h:i < l.length):idOf l l[i] = i + 1:=
 idOf_first h rfl (fun j hj hji e=>by
  have:=List.pairwise_iff_getElem.1 hr j i hj h hji
  rw [e] at this
  exact List.lt_irrefl _ this)
theorem same_self (l:List Triple) (A B:Option Addr) (c d:Nat) (w:World) (HL:triK.sl.M w (fun k=>k < w.heap.size) l [.slice A l.length c]) (HM:triK.sl.M w (fun k=>k < w.heap.size) l [.slice B l.length d]) :
  Calls Tryz.prog 30 #[.slice A l.length c,.slice B l.length d] w fun e w'=>e = .returned (.bool true)/\Below w.heap.size w w':=by
 refine (same_calls l l A B c d w HL HM).mono ?_;rintro e w' ⟨rfl,hb⟩;exact ⟨by rw [dT rfl],hb⟩
theorem same8_self (l:List Ids) (A B:Option Addr) (c d:Nat) (w:World) (HL:idsK.sl.M w (fun k=>k < w.heap.size) l [.slice A l.length c]) (HM:idsK.sl.M w (fun k=>k < w.heap.size) l [.slice B l.length d]) (h47:l.length <= 1000000) :
  Calls Tryz.prog 25 #[.slice A l.length c,.slice B l.length d] w fun e w'=>e = .returned (.bool true)/\Below w.heap.size w w':=by
 refine (same8_calls l l A B c d w HL HM h47 h47).mono ?_;rintro e w' ⟨rfl,hb⟩;exact ⟨by rw [dT rfl],hb⟩
theorem alike_calls (T:List Triple) (hv:Valid T) (hl:T.length <= 100) (gs gx:Nat) (w:World) (hs:StoreAt w (fun _=>True) gs T) (hx:RefAt w (fun _=>True) gx T) :
  Calls Tryz.prog 32 #[.pointer (some ⟨gs,0,none⟩),.pointer (some ⟨gx,0,none⟩)] w fun e w'=>e = .returned (.bool true)/\Below w.heap.size w w':=by
 have HS0:Hid (AL w w gs gx T):=Zz ⟨bR _ _,hs,hx⟩;have HV:=Zz hv;have HEl:=Zz (E_len hv hl);have HRise:=Zz (termsT_rise hv);have HIs:=Zz (termsT_is hv);have HIl:=Zz (ids_len T);have HSm:Hid (∀ t ∈ T,SmallT t):=Zz (fun t ht=>(valid_small (hv t ht)).1);have HFl:=Zz (flat_valid hv (by omega));obtain ⟨A0,c0,hc0,hM0⟩:=hx.tri;have HM0:=Zz (fun W (hb:Below w.heap.size w W)=>Kd.M_bound (Kd.M_below (Kd.M_bound hM0) hb));have HK0:Hid (∀ W,Below w.heap.size w W -> W.cell? ⟨gx,0,none⟩ = some (.slice A0 T.length c0)):=Zz (fun W hb=>(hb.cell (p:=⟨gx,0,none⟩) (cell_lt hc0)).trans hc0);have HLn:=Zz (fun W (hb:Below w.heap.size w W)=>len_calls T hl gs W _ (HS0.o.below hb).st);have HTr:=Zz (fun W (hb:Below w.heap.size w W)=>triples_calls T hl gs W _ (HS0.o.below hb).st);have HEx:=Zz (fun W (hb:Below w.heap.size w W)=>export_calls T hv hl gs W _ (HS0.o.below hb).st);have HPr:=Zz (fun W (hb:Below w.heap.size w W)=>refprint_calls T A0 c0 W (HM0.o W hb) HSm.o (by have:=HFl.o;omega));have HSame:=Zz (fun A c W (hm:triK.sl.M W (fun k=>k < W.heap.size) T [.slice A T.length c]) (hb:Below w.heap.size w W)=>same_self T A A0 c c0 W hm (HM0.o W hb));obtain ⟨X,hX⟩:∃ X,X = T.flatMap lineN:=⟨_,rfl⟩;rw [<- hX] at HEx HPr;have tX:=mkS_toList X;have hqX:(X == X) = true:=by simp
 have hcur:=bR w.heap.size w;have k0:=HK0.o w hcur;clear hX hM0 hc0 hs hx hv;go_enter func32,ntmps32;go_upto_region 1 with fail
 go_cut [45] (fun v45 wx=>v45 = .bool false/\Hid (Below w.heap.size w wx))
 case first =>
  go_region_held3 (fun W=>W.cell? ⟨gx,0,none⟩ = some (Value.slice A0 T.length c0)) (exact HK0.o _ (by repeat (first | assumption | exact bR _ _ | refine bel_drew ?_ | refine bel_alloc ?_ _))) (first
   | (go_at_call 24;refine (HLn.o _ ?_).mono ?_;(repeat (first | assumption | exact bR _ _ | refine bel_drew ?_ | refine bel_alloc ?_ _));rintro e w9 ⟨rfl,hbc⟩;have hcur:Below w.heap.size w w9:=bel_step (by repeat (first | assumption | exact bR _ _ | refine bel_drew ?_ | refine bel_alloc ?_ _)) hbc;have k0:=HK0.o w9 hcur)
   | (go_at_call 34;refine (HTr.o _ ?_).mono ?_;(repeat (first | assumption | exact bR _ _ | refine bel_drew ?_ | refine bel_alloc ?_ _));rintro e w10 ⟨⟨v10,rfl,ho10⟩,hbc⟩;have hM10:=Kd.M_bound (Kd.own_sl (ok:=fun _=>True) ho10 (fun k hk=>trivial) (fun k hk=>trivial));obtain ⟨A10,c10,rfl,_,_⟩:=Kd.own_slice ho10;have HM10:=Zz hM10;clear ho10 hM10;have hcur:Below w.heap.size w w10:=bel_step (by repeat (first | assumption | exact bR _ _ | refine bel_drew ?_ | refine bel_alloc ?_ _)) hbc;have k0:=HK0.o w10 hcur)
   | (go_at_call 30;refine (HSame.o A10 c10 _ (Kd.M_bound (Kd.M_below HM10.o (by repeat (first | exact bR _ _ | refine bel_drew ?_ | refine bel_alloc ?_ _)))) ?_).mono ?_;(repeat (first | assumption | exact bR _ _ | refine bel_drew ?_ | refine bel_alloc ?_ _));rintro e w11 ⟨rfl,hbc⟩;have hcur:Below w.heap.size w w11:=bel_step (by repeat (first | assumption | exact bR _ _ | refine bel_drew ?_ | refine bel_alloc ?_ _)) hbc;have k0:=HK0.o w11 hcur)
   | (go_at_call 29;refine (HEx.o _ ?_).mono ?_;(repeat (first | assumption | exact bR _ _ | refine bel_drew ?_ | refine bel_alloc ?_ _));rintro e w12 ⟨rfl,hbc⟩;have hcur:Below w.heap.size w w12:=bel_step (by repeat (first | assumption | exact bR _ _ | refine bel_drew ?_ | refine bel_alloc ?_ _)) hbc;have k0:=HK0.o w12 hcur)
   | (go_at_call 14;refine (HPr.o _ ?_).mono ?_;(repeat (first | assumption | exact bR _ _ | refine bel_drew ?_ | refine bel_alloc ?_ _));rintro e w13 ⟨rfl,hbc⟩;have hcur:Below w.heap.size w w13:=bel_step (by repeat (first | assumption | exact bR _ _ | refine bel_drew ?_ | refine bel_alloc ?_ _)) hbc;have k0:=HK0.o w13 hcur)
   | fail)
  all_goals (have HBf:=Zz hcur;go_wp2_with fail;go_meet;exact ⟨rfl,HBf⟩)
 case rest =>
  obtain ⟨rfl,HBc⟩:=hcut;have HSc:=Zz (HS0.o.below HBc.o);have HTm:=Zz (terms_calls T HEl.o gs wc _ HSc.o.st);clear k0 hcur tX hqX HLn HTr HEx HPr HSame HK0 HM0 HS0 HBc;go_wp2_with fail;refine HTm.o.mono ?_;rintro e w2 ⟨⟨v5,rfl,ho⟩,hb⟩;obtain ⟨A5,c5,rfl,_,_⟩:=Kd.own_slice ho;have HS2:=Zz (HSc.o.below hb);have HM5:=Zz (Kd.M_bound (Kd.own_sl (ok:=fun _=>True) ho (fun k hk=>trivial) (fun k hk=>trivial)));obtain ⟨E,hE⟩:∃ E,E = termsT T:=⟨_,rfl⟩;have HEe:=Zz hE;obtain ⟨A1,c1,hg1,hM1⟩:=HS2.o.rf.terms;rw [<- hE] at HM5 HEl HRise HIs hg1 hM1;rw [<- hE];have HM1:=Zz (Kd.M_bound hM1);have HG1:=Zz hg1;have hE300:=HEl.o;clear ho hb hE hg1 hM1 HSc HTm;have k1:=HG1.o;go_wp2;go_loopw [6] (fun vi wr=>∃ i:Nat,vi = .int .i64 i/\i <= E.length/\Hid (AL w wr gs gx T/\Below w2.heap.size w2 wr)) (fun vi _=>E.length - (intOf vi).toNat)
  case atStart=>exact ⟨0,rfl,by omega,Zz ⟨HS2.o,bR _ _⟩⟩
  case round =>
   obtain ⟨i,rfl,hi,HI⟩:=hrel;clear k1;by_cases hlt:i < E.length
   ·
    have hd:decide (i < E.length) = true:=dT hlt;have ii:(i:Int) < (E.length:Int):=by omega
    have hw1:IntKind.i64.wrap ((i:Int) + 1) = (i:Int) + 1:=by rw [Zw];omega
    have HTm:=TermAt.term_at T i (by rw [<- HEe.o];exact hlt) (by rw [<- HEe.o];omega) gs wr _ HI.o.1.st;rw [show ((i + 1:Nat):Int) = (i:Int) + 1 by omega] at HTm;obtain ⟨t,ht⟩:∃ t,t = E[i]:=⟨_,rfl⟩;have hte:(termsT T)[i]'(by rw [<- HEe.o];exact hlt) = t:=by
     rw [ht];have:∀ (l:List Term) (h:l = E) (h1:i < l.length),l[i] = E[i]:=by rintro l rfl h1;rfl
     exact this _ HEe.o.symm _
    rw [hte] at HTm;have HTm:=Zz HTm;have hsm:SmallM t:=by have:=is_small (HIs.o t (by rw [ht];exact Zm hlt));unfold SmallM;omega
    have hid:idOf E t = i + 1:=by rw [ht];exact idOf_at HRise.o i hlt
    have HId:=Zz (fun W (h:AL w W gs gx T)=>h.id HV.o (by rw [<- HEe.o];exact hE300) t hsm);rw [<- HEe.o,hid] at HId;have hne:∀ W,(binOp .neq 24 (.agg #[.int .i64 t.kind,.string (mkS t.text),.string (mkS t.extra)]) (.agg #[.int .i64 t.kind,.string (mkS t.text),.string (mkS t.extra)])).run Tryz.prog W = .ok (.bool false) W:=fun W=>by
     have:=run_ne_term t t W;rw [dT rfl] at this;exact this
    have HNe:=Zz hne;obtain ⟨b5,o5,rfl,_,hbs5,hcells5⟩:=term_cells HM5.o (by omega);obtain ⟨b1,o1,rfl,_,hbs1,hcells1⟩:=term_cells HM1.o (by omega);have hx5:=(hcells5 i hlt).below HI.o.2;have hx1:=(hcells1 i hlt).below HI.o.2;rw [<- ht] at hx5 hx1;have hg1:=(HI.o.2.cell (p:=⟨gx,1,none⟩) (cell_lt HG1.o)).trans HG1.o;have HX5:=Zz hx5;have HX1:=Zz hx1;have HGr:=Zz hg1;clear ht hte hsm hid hne hcells5 hcells1 hx5 hx1 hg1;go_wp2_with fail;refine HTm.o.mono ?_;rintro e w3 ⟨rfl,hb⟩;have hb4:Below wr.heap.size wr (w3.alloc (.cells (termL t).toArray 24)):=bel_alloc hb _;have hnw:=C3.new w3 t;have hs4:Hid (w3.heap.size < (w3.alloc (.cells (termL t).toArray 24)).heap.size):=Zz (by simp);obtain ⟨w4,hw4⟩:∃ w4,w4 = w3.alloc (.cells (termL t).toArray 24):=⟨_,rfl⟩;rw [<- hw4] at hb4 hnw hs4;have HWX:Hid (w3.alloc (.cells #[.int .i64 t.kind,.string (mkS t.text),.string (mkS t.extra)] 24) = w4):=Zz hw4.symm;have HS4:=Zz (HI.o.1.below hb4);have HB24:=Zz (bel_step HI.o.2 hb4);have h5:=HX5.o.below hb4;have h1:=HX1.o.below hb4;have hg4:=(hb4.cell (p:=⟨gx,1,none⟩) (cell_lt HGr.o)).trans HGr.o;have a0:=fun p:QT.Bel w4=>(h5.bel p).c0
    have a1:=fun p:QT.Bel w4=>(h5.bel p).c1
    have a2:=fun p:QT.Bel w4=>(h5.bel p).c2
    have x0:=fun p:QT.Bel w4=>(h1.bel p).c0
    have x1:=fun p:QT.Bel w4=>(h1.bel p).c1
    have x2:=fun p:QT.Bel w4=>(h1.bel p).c2
    have y0:=fun p:QT.Bel w4=>(hnw.bel p).c0
    have y1:=fun p:QT.Bel w4=>(hnw.bel p).c1
    have y2:=fun p:QT.Bel w4=>(hnw.bel p).c2
    have gp:=fun p:QT.Bel w4=>p.cell (b:=gx) (o:=1) hg4
    have HIp:=Zz (fun p:QT.Bel w4=>HId.o p.w (HS4.o.below p.bel));have hqq:=HNe.o;simp only [Nat.zero_add] at y1 y2;clear hw4 hb hb4 hnw h5 h1 hg4 HId HNe HX5 HX1 HGr HTm HI;obtain ⟨tk,tx,te⟩:=t;unfold Ref5.termV at HIp |-;dsimp only at a0 a1 a2 x0 x1 x2 y0 y1 y2 HIp hqq HWX;dsimp only;go_upto_region 10 with fail
    rw [HWX.o];clear HWX;refine QT.region_all (by kernel_rfl) (by kernel_rfl) ?_
    iterate 30 (go_big_quiet_step (fail))
    go_big_quiet_step (exact QT.Bel.call _ (HIp.o _))
    iterate 4 (go_big_quiet_step (fail))
    refine wpQuiet_nil ?_;intro w5 hw';obtain ⟨⟨_,hb5⟩,rfl⟩:=hw';have HS5:=Zz (HS4.o.below hb5);have HB25:=Zz (bel_step HB24.o hb5);clear hb5 a0 a1 a2 x0 x1 x2 y0 y1 y2 gp HIp hqq HS4 HB24;go_wp2;go_roundw
    case rel=>exact ⟨i + 1,by go_num,by omega,Zz ⟨HS5.o,HB25.o⟩⟩
    case measure=>simp [intOf];omega
   ·
    have hd:decide (i < E.length) = false:=dF hlt;have HSr:=Zz HI.o.1;have hw1:IntKind.i64.wrap ((E.length:Int) + 1) = (E.length:Int) + 1:=by rw [Zw];omega
    have HT0:=Zz (TermAt.term_none T 0 (.inl (by decide)) gs wr _ HI.o.1.st);clear HI hlt;go_wp2_with fail;refine HT0.o.mono ?_;rintro e w3 ⟨rfl,hb⟩;have HS3:=Zz (HSr.o.below (bel_alloc hb (.cells #[.int .i64 0,.string ⟨#[]⟩,.string ⟨#[]⟩] 24)));have HT1:=Zz (TermAt.term_none T ((E.length:Int) + 1) (.inr (by rw [<- HEe.o];omega)) gs _ _ HS3.o.st);clear hb HT0 HSr;dsimp only;go_wp2_with fail;refine HT1.o.mono ?_;rintro e w4 ⟨rfl,hb⟩;have HS4:=Zz (HS3.o.below (bel_alloc hb (.cells #[.int .i64 0,.string ⟨#[]⟩,.string ⟨#[]⟩] 24)));have HRg:=Zz (RingC.ring_calls T gs _ _ HS4.o.st);clear hb HT1 HS3 hw1;dsimp only;go_wp2_with fail;refine HRg.o.mono ?_;rintro e w5 ⟨⟨rg,rfl,hG⟩,hb⟩;have HS5:=Zz (HS4.o.below hb);have HG5:=Zz hG;clear hb HRg HS4 hG;obtain ⟨A3,c3,hg3,hM3⟩:=HS5.o.rf.ids;have HK3:Hid (∀ W,Below w5.heap.size w5 W -> W.cell? ⟨gx,3,none⟩ = some (.slice A3 T.length c3)):=Zz (fun W hb=>(hb.cell (p:=⟨gx,3,none⟩) (cell_lt hg3)).trans hg3);have HM3:=Zz (fun W (hb:Below w5.heap.size w5 W)=>Kd.M_bound (Kd.M_below (Kd.M_bound hM3) hb));have HAl:=Zz (fun W (hW:Below w5.heap.size w5 W)=>all_calls anyP (idsT T) (by rw [ids_len];exact hl) rg W _ (HG5.o.below hW));rw [filter_any] at HAl;unfold patL anyP at HAl;dsimp only at HAl;have HEn:=Zz (fun W (hW:Below w5.heap.size w5 W)=>encode_calls T HV.o hl gs W _ (HS5.o.below hW).st);have HRe:=Zz (fun W (hW:Below w5.heap.size w5 W)=>RefEnc.refenc_calls T HV.o hl gx W _ (HS5.o.below hW).rf);have HSm8:=Zz (fun A c W (hm:idsK.sl.M W (fun k=>k < W.heap.size) (idsT T) [.slice A (idsT T).length c]) (hb:Below w5.heap.size w5 W)=>same8_self (idsT T) A A3 c c3 W hm (by have h:=HM3.o W hb;rw [<- HIl.o] at h;exact h) (by have:=HIl.o;omega));rw [HIl.o] at HAl HSm8;obtain ⟨a,ha⟩:∃ a,a = encT T:=⟨_,rfl⟩;rw [<- ha] at HEn HRe;have ta:=mkS_toList a;have hqe:(a == a) = true:=by simp
    have hcur:=bR w5.heap.size w5;have k3:=HK3.o w5 hcur;clear ha hg3 hM3 HM3 HIl HEe HEl HRise HIs hE300 HM5 HM1 HG1 hi HS2;go_upto_region 15 with fail
    refine HeldZ.region (fun W=>W.cell? ⟨gx,3,none⟩ = some (Value.slice A3 T.length c3)) 29 30 #[false,false,false,false,false,false,false,false,false,false,false,false,false,false,false,false,false,false,false,false,false,false,false,false,false,false,false,false,false,false] (by kernel_rfl) rfl rfl ?_;intro hinv;have hcur:Below w5.heap.size w5 w5.drew:=bel_drew (bR _ _);have hS:=HK3.o w5.drew hcur;refine HeldZ.tk 0 hinv hS ?_;clear hinv;intro hinv
    try simp only [Act.put,Zs,HeldZ.sm] at hinv |-
    refine HeldZ.tk 1 hinv hS ?_;clear hinv;intro hinv
    try simp only [Act.put,Zs,HeldZ.sm] at hinv |-
    refine HeldZ.tk 2 hinv hS ?_;clear hinv;intro hinv
    try simp only [Act.put,Zs,HeldZ.sm] at hinv |-
    refine HeldZ.tk 3 hinv hS ?_;clear hinv;intro hinv
    try simp only [Act.put,Zs,HeldZ.sm] at hinv |-
    refine HeldZ.tk 4 hinv hS ?_;clear hinv;intro hinv
    try simp only [Act.put,Zs,HeldZ.sm] at hinv |-
    refine HeldZ.tk 5 hinv hS ?_;clear hinv;intro hinv
    try simp only [Act.put,Zs,HeldZ.sm] at hinv |-
    refine HeldZ.tk 6 hinv hS ?_;clear hinv;intro hinv
    try simp only [Act.put,Zs,HeldZ.sm] at hinv |-
    refine HeldZ.tk 7 hinv hS ?_;clear hinv;intro hinv
    try simp only [Act.put,Zs,HeldZ.sm] at hinv |-
    refine HeldZ.tk 8 hinv hS ?_;clear hinv;intro hinv
    try simp only [Act.put,Zs,HeldZ.sm] at hinv |-
    refine HeldZ.tk 9 hinv hS ?_;clear hinv;intro hinv
    try simp only [Act.put,Zs,HeldZ.sm] at hinv |-
    refine HeldZ.tk 10 hinv hS ?_;clear hinv;intro hinv
    try simp only [Act.put,Zs,HeldZ.sm] at hinv |-
    refine HeldZ.tk 11 hinv hS ?_;clear hinv;intro hinv
    try simp only [Act.put,Zs,HeldZ.sm] at hinv |-
    refine HeldZ.tk 12 hinv hS ?_;clear hinv;intro hinv
    try simp only [Act.put,Zs,HeldZ.sm] at hinv |-
    refine HeldZ.tk 14 hinv hS ?_;clear hinv;intro hinv
    try simp only [Act.put,Zs,HeldZ.sm] at hinv |-
    refine HeldZ.tk 15 hinv hS ?_;clear hinv;intro hinv
    try simp only [Act.put,Zs,HeldZ.sm] at hinv |-
    refine HeldZ.tk 16 hinv hS ?_;clear hinv;intro hinv
    try simp only [Act.put,Zs,HeldZ.sm] at hinv |-
    refine HeldZ.tk 17 hinv hS ?_;clear hinv;intro hinv
    try simp only [Act.put,Zs,HeldZ.sm] at hinv |-
    refine HeldZ.ow 13 hinv ?_;clear hinv;intro hinv K hK;go_simp;refine (HAl.o _ hcur).mono ?_;rintro e w11 ⟨⟨A11,c11,rfl,hm11⟩,hbc⟩;have HM11:=Zz (Kd.M_bound hm11);have hcur:Below w5.heap.size w5 w11:=bel_step (by repeat (first | assumption | exact bR _ _ | refine bel_drew ?_ | refine bel_alloc ?_ _)) hbc;clear hS;have hS:=HK3.o w11 hcur;refine hK _ _ (fun _=>hS) ?_;clear hK K
    try simp only [Act.put,Zs,HeldZ.sm] at hinv |-
    refine HeldZ.ow 18 hinv ?_;clear hinv;intro hinv K hK;go_simp;refine (HSm8.o A11 c11 _ HM11.o hcur).mono ?_;rintro e w12 ⟨rfl,hbc⟩;have hcur:Below w5.heap.size w5 w12:=bel_step (by repeat (first | assumption | exact bR _ _ | refine bel_drew ?_ | refine bel_alloc ?_ _)) hbc;clear hS;have hS:=HK3.o w12 hcur;refine hK _ _ (fun _=>hS) ?_;clear hK K
    try simp only [Act.put,Zs,HeldZ.sm] at hinv |-
    refine HeldZ.tk 19 hinv hS ?_;clear hinv;intro hinv
    try simp only [Act.put,Zs,HeldZ.sm] at hinv |-
    refine HeldZ.tk 20 hinv hS ?_;clear hinv;intro hinv
    try simp only [Act.put,Zs,HeldZ.sm] at hinv |-
    refine HeldZ.tk 21 hinv hS ?_;clear hinv;intro hinv
    try simp only [Act.put,Zs,HeldZ.sm] at hinv |-
    refine HeldZ.tk 24 hinv hS ?_;clear hinv;intro hinv
    try simp only [Act.put,Zs,HeldZ.sm] at hinv |-
    refine HeldZ.ow 22 hinv ?_;clear hinv;intro hinv K hK;go_simp;refine (HEn.o _ hcur).mono ?_;rintro e w13 ⟨⟨va,rfl,hoa⟩,hbc⟩;have HMa:=Zz (Kd.own_sl (ok:=fun _=>True) (ok':=fun _=>True) hoa (fun _ _=>trivial) (fun _ _=>trivial));obtain ⟨Aa,ca,rfl,_,_⟩:=Kd.own_slice hoa;have hca:=conv_row HMa.o (bR _ _);clear hoa;have hcur:Below w5.heap.size w5 w13:=bel_step (by repeat (first | assumption | exact bR _ _ | refine bel_drew ?_ | refine bel_alloc ?_ _)) hbc;clear hS;have hS:=HK3.o w13 hcur;refine hK _ _ (fun _=>hS) ?_;clear hK K
    try simp only [Act.put,Zs,HeldZ.sm] at hinv |-
    refine HeldZ.twoW 23 25 hinv (by kernel_rfl) rfl (by rfl) rfl (by rfl) ?_ ?_
    ·
     clear hinv;intro hinv K hK;have hinv:=hinv (by decide);go_simp;refine hK _ _ (fun _=>hS) ?_;clear hK K
     try simp only [Act.put,Zs,HeldZ.sm] at hinv |-
     refine HeldZ.ow 25 hinv ?_;clear hinv;intro hinv K hK;go_simp;refine (HRe.o _ hcur).mono ?_;rintro e w14 ⟨⟨vb,rfl,hob⟩,hbc⟩;have HMb:=Zz (Kd.own_sl (ok:=fun _=>True) (ok':=fun _=>True) hob (fun _ _=>trivial) (fun _ _=>trivial));obtain ⟨Ab,cb,rfl,_,_⟩:=Kd.own_slice hob;have hcb:=conv_row HMb.o (bR _ _);clear hob;have hca:=conv_row HMa.o hbc;have hcur:Below w5.heap.size w5 w14:=bel_step (by repeat (first | assumption | exact bR _ _ | refine bel_drew ?_ | refine bel_alloc ?_ _)) hbc;clear hS;have hS:=HK3.o w14 hcur;refine hK _ _ (fun _=>hS) ?_;clear hK K
     try simp only [Act.put,Zs,HeldZ.sm] at hinv |-
     refine HeldZ.ow 26 hinv ?_;clear hinv;intro hinv K hK;go_simp;refine hK _ _ (fun _=>hS) ?_;clear hK K
     try simp only [Act.put,Zs,HeldZ.sm] at hinv |-
     refine HeldZ.tk 27 hinv hS ?_;clear hinv;intro hinv
     try simp only [Act.put,Zs,HeldZ.sm] at hinv |-
     refine HeldZ.tk 28 hinv hS ?_;clear hinv;intro hinv
     try simp only [Act.put,Zs,HeldZ.sm] at hinv |-
     refine HeldZ.oneW 29 hinv (by kernel_rfl) rfl (by rfl) ?_;clear hinv;intro _ K hK;go_simp;refine hK _ _ (fun h=>absurd rfl h) ?_;refine HeldZ.done (by kernel_rfl) ?_ _;have HBf:=Zz (HS5.o.below hcur).bel;clear hK K hS;go_wp2;go_ret;exact ⟨rfl,HBf.o⟩
    ·
     clear hinv;intro hinv K hK;have hinv:=hinv (by decide);go_simp;refine (HRe.o _ hcur).mono ?_;rintro e w14 ⟨⟨vb,rfl,hob⟩,hbc⟩;have HMb:=Zz (Kd.own_sl (ok:=fun _=>True) (ok':=fun _=>True) hob (fun _ _=>trivial) (fun _ _=>trivial));obtain ⟨Ab,cb,rfl,_,_⟩:=Kd.own_slice hob;have hcb:=conv_row HMb.o (bR _ _);clear hob;have hca:=conv_row HMa.o hbc;have hcur:Below w5.heap.size w5 w14:=bel_step (by repeat (first | assumption | exact bR _ _ | refine bel_drew ?_ | refine bel_alloc ?_ _)) hbc;clear hS;have hS:=HK3.o w14 hcur;refine hK _ _ (fun _=>hS) ?_;clear hK K
     try simp only [Act.put,Zs,HeldZ.sm] at hinv |-
     refine HeldZ.twoW 23 26 hinv (by kernel_rfl) rfl (by rfl) rfl (by rfl) ?_ ?_
     ·
      clear hinv;intro hinv K hK;have hinv:=hinv (by decide);go_simp;refine hK _ _ (fun _=>hS) ?_;clear hK K
      try simp only [Act.put,Zs,HeldZ.sm] at hinv |-
      refine HeldZ.ow 26 hinv ?_;clear hinv;intro hinv K hK;go_simp;refine hK _ _ (fun _=>hS) ?_;clear hK K
      try simp only [Act.put,Zs,HeldZ.sm] at hinv |-
      refine HeldZ.tk 27 hinv hS ?_;clear hinv;intro hinv
      try simp only [Act.put,Zs,HeldZ.sm] at hinv |-
      refine HeldZ.tk 28 hinv hS ?_;clear hinv;intro hinv
      try simp only [Act.put,Zs,HeldZ.sm] at hinv |-
      refine HeldZ.oneW 29 hinv (by kernel_rfl) rfl (by rfl) ?_;clear hinv;intro _ K hK;go_simp;refine hK _ _ (fun h=>absurd rfl h) ?_;refine HeldZ.done (by kernel_rfl) ?_ _;have HBf:=Zz (HS5.o.below hcur).bel;clear hK K hS;go_wp2;go_ret;exact ⟨rfl,HBf.o⟩
     ·
      clear hinv;intro hinv K hK;have hinv:=hinv (by decide);go_simp;refine hK _ _ (fun _=>hS) ?_;clear hK K
      try simp only [Act.put,Zs,HeldZ.sm] at hinv |-
      refine HeldZ.ow 23 hinv ?_;clear hinv;intro hinv K hK;go_simp;refine hK _ _ (fun _=>hS) ?_;clear hK K
      try simp only [Act.put,Zs,HeldZ.sm] at hinv |-
      refine HeldZ.tk 27 hinv hS ?_;clear hinv;intro hinv
      try simp only [Act.put,Zs,HeldZ.sm] at hinv |-
      refine HeldZ.tk 28 hinv hS ?_;clear hinv;intro hinv
      try simp only [Act.put,Zs,HeldZ.sm] at hinv |-
      refine HeldZ.oneW 29 hinv (by kernel_rfl) rfl (by rfl) ?_;clear hinv;intro _ K hK;go_simp;refine hK _ _ (fun h=>absurd rfl h) ?_;refine HeldZ.done (by kernel_rfl) ?_ _;have HBf:=Zz (HS5.o.below hcur).bel;clear hK K hS;go_wp2;go_ret;exact ⟨rfl,HBf.o⟩
end Alike
namespace ChunkW
open Go.RowKit Go.Shelf
attribute [local go_sem] Oper.semAt_some
def upto (N k:Nat):List (Fin N):=(List.finRange N).take k
theorem upto_length {N k:Nat} (h:k <= N):(upto N k).length = k:=by simp [upto];omega
theorem upto_succ {N k:Nat} (h:k < N):upto N (k + 1) = upto N k ++ [⟨k,h⟩]:=by
 unfold upto;have hl:k < (List.finRange N).length:=by simpa using h
 rw [List.take_add_one,Zg hl];simp
theorem upto_all (N:Nat):upto N N = List.finRange N:=by
 unfold upto;exact List.take_of_length_le (by simp)
def Kept (n₀ Bs Bn:Nat) (W W':World):Prop:=Below n₀ W W'/\W'.heap[Bs]? = W.heap[Bs]?/\W'.heap[Bn]? = W.heap[Bn]?
theorem Kept.refl (n₀ Bs Bn:Nat) (W:World):Kept n₀ Bs Bn W W:=⟨bR _ _,rfl,rfl⟩
theorem Kept.trans {n₀ Bs Bn:Nat} {A B C:World} (h:Kept n₀ Bs Bn A B) (k:Kept n₀ Bs Bn B C):Kept n₀ Bs Bn A C:=⟨h.1.trans k.1,k.2.1.trans h.2.1,k.2.2.trans h.2.2⟩
theorem Kept.cell_s {n₀ Bs Bn:Nat} {W W':World} (h:Kept n₀ Bs Bn W W'):W'.cell? ⟨Bs,0,none⟩ = W.cell? ⟨Bs,0,none⟩:=World.cell?_of_block h.2.1
theorem Kept.cell_n {n₀ Bs Bn:Nat} {W W':World} (h:Kept n₀ Bs Bn W W'):W'.cell? ⟨Bn,0,none⟩ = W.cell? ⟨Bn,0,none⟩:=World.cell?_of_block h.2.2
def part (b off k:Nat):Value:=.slice (some ⟨b,off + 3 * k,none⟩) 3 3
theorem info_int:(Tryz.prog.info? 3).map (fun i=>(i.zero,i.size,i.bytes)) = some (some (.int .i64 0),1,8):=by kernel_rfl
theorem part_run (b off M cap m m3:Nat) (h3:m3 = m + 3) (h:m3 <= cap) (w:World):(Instr.slice 74 (.slice (some ⟨b,off,none⟩) M cap) (some (.int .i64 (m:Int))) (some (.int .i64 (m3:Int))) (some (.int .i64 (m3:Int)))).run Tryz.prog w = .ok (.slice (some ⟨b,off + m,none⟩) 3 3) w:=by
 obtain ⟨i,hi',_,hz1,_⟩:=info_parts info_int;have hel:Tryz.prog.elem 74 = 3:=by simp [Program.elem,underlying74]
 have hu:Tryz.prog.underlying 74 = some (.slice (Tryz.prog.elem 74)):=by rw [hel];exact underlying74
 rw [run_slice_lhm w 74 _ M cap hu .i64 .i64 .i64 (m:Int) (m3:Int) (m3:Int) (by omega) (by omega) (by omega) (by omega),hel];have h1:m3 - m = 3:=by omega
 have h2:¬ m3 = m:=by omega
 simp [sizeOf,typeInfo,hi',hz1,sliced,Result.andThen,Addr.add,h1,h2]
theorem rest_run (A:Option Addr) (M cap m:Nat) (h:m <= M):∃ A',∀ w,(Instr.slice 74 (.slice A M cap) (some (.int .i64 (m:Int))) none none).run Tryz.prog w = .ok (.slice A' (M - m) (cap - m)) w:=by
 obtain ⟨i,hi',_,hz1,_⟩:=info_parts info_int;have hel:Tryz.prog.elem 74 = 3:=by simp [Program.elem,underlying74]
 have hu:Tryz.prog.underlying 74 = some (.slice (Tryz.prog.elem 74)):=by rw [hel];exact underlying74
 refine ⟨if cap = m then A else A.map (·.add m),fun w=>?_⟩;rw [run_slice_l w 74 A M cap hu .i64 (m:Int) (by omega) (by omega),hel];simp [sizeOf,typeInfo,hi',hz1,sliced,Result.andThen]
theorem chunk_calls (A:Option Addr) (len cap:Nat) (w:World):Calls Tryz.prog 112 #[.slice A len cap,.int .i64 3] w fun e w'=>e = .returned (.func (.func 149) #[] #[.pointer (some ⟨w.heap.size,0,none⟩),.pointer (some ⟨w.heap.size + 1,0,none⟩)])/\w' = (w.alloc (.cells #[.slice A len cap] 74)).alloc (.cells #[.int .i64 3] 3):=by
 go_enter func112,ntmps112;go_wp2;go_ret;exact ⟨rfl,rfl⟩
theorem chunk1_in (n:Nat) (hn:1 <= n) (l Bs Bn n₀ b off N M cap:Nat) (A:Option Addr) (hA:0 < N -> A = some ⟨b,off,none⟩) (hM1:M <= 3 * N) (hM2:3 * N <= M) (hN:N <= 1000) (hlc:M <= cap) (hcap:cap <= maxLen) (J Jx:List (Fin N) -> World -> Prop) (hJd:∀ s W q,J s W -> J s (World.drewN W q))
  (hY:∀ pre x W,J pre W -> pre.length < N -> YieldAt Fence.wide (n - 1) Tryz.prog l #[part b off x.1] W fun e W' =>
   (e = .returned (.bool true)/\J (pre ++ [x]) W'/\Kept n₀ Bs Bn W W') \/ (e = .returned (.bool false)/\Jx (pre ++ [x]) W'))
  (W:World) (hBs:W.cell? ⟨Bs,0,none⟩ = some (.slice A M cap)) (hBn:W.cell? ⟨Bn,0,none⟩ = some (.int .i64 3)) (h0:J [] W) :
  CallsIn Fence.wide n Tryz.prog 149 #[.func (.yield l) #[] #[],.pointer (some ⟨Bs,0,none⟩),.pointer (some ⟨Bn,0,none⟩)] W fun e W'=>(∃ v,e = .returned v) /\
   ((∃ ys,ys = List.finRange N/\J ys W') \/ (∃ pre,pre <+: List.finRange N/\Jx pre W')):=by
 refine callsIn_of_wp func149 rfl trivial ?_ rfl;simp only [ntmps149,List.size_toArray,Zc,List.length_nil,Nat.reduceAdd,Nat.reduceSub,Array.replicate_succ,Array.replicate_zero,List.push_toArray,List.append_toArray,Zf,List.cons_append];gi_wp2;gi_loopw [4] (fun i wr=>∃ k m:Nat,k <= N/\i = .int .i64 m/\m <= 3 * k/\3 * k <= m/\J (upto N k) wr/\Kept n₀ Bs Bn W wr)
  (fun i _=>3 * N - (intOf i).toNat)
 case atStart=>exact ⟨0,0,Nat.zero_le _,rfl,by omega,by omega,h0,Kept.refl _ _ _ _⟩
 case round =>
  obtain ⟨k,m,hk,rfl,hm1,hm2,hJs,hnx⟩:=hrel;have hcs:=hnx.cell_s.trans hBs;have hcn:=hnx.cell_n.trans hBn;by_cases hlt:k < N
  ·
   have hAe:=hA (by omega);subst hAe;have hd:decide ((m:Int) < (M:Int)) = true:=dT (by omega);obtain ⟨m3,hm3⟩:∃ m3,m3 = m + 3:=⟨_,rfl⟩;have hr2:=fun w=>part_run b off M cap m m3 hm3 (by omega) w
   obtain ⟨A',hA'⟩:∃ A',∀ w,(Instr.slice 74 (.slice (some ⟨b,off,none⟩) M cap) (some (.int .i64 (m:Int))) none none).run Tryz.prog w = .ok (.slice A' (M - m) (cap - m)) w:=rest_run (some ⟨b,off,none⟩) M cap m (by omega);obtain ⟨d,hd2⟩:∃ d,d = M - m:=⟨_,rfl⟩;rw [<- hd2] at hA';have hmin:¬ ((d:Int) < 3):=by omega
   have hmin2:min (3:Int) ((M - m:Nat):Int) = 3:=by omega
   have hmin3:min (3:Int) (d:Int) = 3:=by omega
   have hw3:IntKind.i64.wrap ((m:Int) + 3) = (m3:Int):=by rw [Zw];omega
   have hpe:part b off k = .slice (some ⟨b,off + m,none⟩) 3 3:=by unfold part;rw [show 3 * k = m by omega]
   gi_wp2;refine wpIn_wide.2 ?_;go_quiet (fail);have hnx2:Kept n₀ Bs Bn W (wr.drewN nq):=⟨⟨hnx.1.os,hnx.1.tape,hnx.1.output,hnx.1.size,hnx.1.block⟩,hnx.2.1,hnx.2.2⟩;have hcs2:(wr.drewN nq).cell? ⟨Bs,0,none⟩ = some (.slice (some ⟨b,off,none⟩) M cap):=hcs;have hcn2:(wr.drewN nq).cell? ⟨Bn,0,none⟩ = some (.int .i64 3):=hcn;have hJ2:=hJd _ _ nq hJs;clear hnx hcs hcn hJs;generalize wr.drewN nq = wz at *;obtain ⟨fn,tmps,assign,body,hy,hR⟩:=hY _ ⟨k,hlt⟩ wz hJ2 (by rw [upto_length hk];exact hlt);dsimp only at hy;rw [hpe] at hy;gi_wp2;refine hR.mono ?_;rintro e W3 (⟨rfl,hJ3,hk3⟩ | ⟨rfl,hJx3⟩)
   ·
    have hcn3:W3.cell? ⟨Bn,0,none⟩ = some (.int .i64 3):=hk3.cell_n.trans hcn2;have hcs3:W3.cell? ⟨Bs,0,none⟩ = some (.slice (some ⟨b,off,none⟩) M cap):=hk3.cell_s.trans hcs2;gi_wp2;go_roundw
    case rel=>exact ⟨k + 1,m3,by omega,by first | rfl | (congr 1;omega),by omega,by omega,by rw [upto_succ hlt];exact hJ3,hnx2.trans hk3⟩
    case measure=>simp [intOf];omega
   ·
    gi_wp2;refine bodyPost_ret (results_none rfl _ _ _) rfl ?_;exact ⟨⟨_,rfl⟩,.inr ⟨_,⟨(List.finRange N).drop (k + 1),by rw [<- upto_succ hlt];exact List.take_append_drop _ _⟩,hJx3⟩⟩
  ·
   obtain rfl:k = N:=by omega
   have hd:decide ((m:Int) < (M:Int)) = false:=dF (by omega);gi_wp2;go_end0;exact ⟨⟨_,rfl⟩,.inl ⟨_,rfl,by rw [<- upto_all];exact hJs⟩⟩
theorem chunk_stops (n:Nat) (hn:1 <= n) (Bs Bn n₀ b off N M cap:Nat) (A:Option Addr) (hA:0 < N -> A = some ⟨b,off,none⟩) (hM1:M <= 3 * N) (hM2:3 * N <= M) (hN:N <= 1000) (hlc:M <= cap) (hcap:cap <= maxLen) (w:World) (hs:Bs < w.heap.size) (hb:Bn < w.heap.size)
  (hBs:w.cell? ⟨Bs,0,none⟩ = some (.slice A M cap)) (hBn:w.cell? ⟨Bn,0,none⟩ = some (.int .i64 3)) :
  SeqStopsK Fence.wide n Tryz.prog 149 #[.pointer (some ⟨Bs,0,none⟩),.pointer (some ⟨Bn,0,none⟩)] (fun x:Fin N=>#[part b off x.1]) (Kept n₀ Bs Bn) (fun ys=>ys = List.finRange N) (fun pre=>pre <+: List.finRange N) N w:=fun l J Jx W hW hJ _ hY h0=>by
 have h1:=(hW.cell (p:=⟨Bs,0,none⟩) hs).trans hBs
 have h2:=(hW.cell (p:=⟨Bn,0,none⟩) hb).trans hBn
 exact chunk1_in n hn l Bs Bn n₀ b off N M cap A hA hM1 hM2 hN hlc hcap J Jx (fun s W q hs'=>hJ s W (World.drewN W q) none hs' ⟨rfl,rfl,rfl,lR _,fun _ _ _=>rfl⟩ (fun r e=>by cases e)) hY W h1 h2 h0
end ChunkW
namespace TripW
open Go.RowKit Go.Lib Go.Shelf B Rd TermPure LinesPure Tri
attribute [local go_sem] Oper.semAt_some
theorem own_app1_in {α:Type} {F:Fence} {n:Nat} {P:Program} {W w0:World} {ops:Array Oper} {rest:List Oper} {o:Oper} {a:Act} {Q:Exit -> Act -> World -> Prop}
  (d:Kd α) (base:Nat) (hgd:o.guard = none) (s x:Operand) (t e:TypeId) (z:Value) (bytes:Nat)
  (ho:o.op = .call { callee:=.builtin .append,args:=#[s,x],argTypes:=#[t,t] })
  (ht:P.underlying t = some (.slice e)) (hinfo:(P.info? e).map (fun i=>(i.zero,i.size,i.bytes)) = some (some z,d.sz,bytes)) (hz:z.cells.size = d.sz) (hb0:0 < bytes)
  (v:Value) (xs:List α) (y:α) (cs:List Value) (ok:Nat -> Prop) (hs:a.eval s = v) (hx:a.eval x = .slice (some ⟨W.heap.size,0,none⟩) 1 1)
  (HO:d.own e W base ok v xs) (HM:d.M W (fun k=>ok k/\some k ≠ v.ownBlock) y cs)
  (HB:Below base w0 W) (hbase:base <= W.heap.size) (hl:(xs.length + 1) * bytes <= 140737488355328)
  (h:∀ v1 w1,d.own e w1 base ok v1 (xs ++ [y]) -> Below base w0 w1 -> W.grownBy w1 v.ownBlock -> wpListIn F n P ops Q rest (a.put o.dst v1) w1) :
  wpListIn F n P ops Q (o :: rest) a (W.alloc (.cells cs.toArray e)):=by
 have hbel:Below W.heap.size W (W.alloc (.cells cs.toArray e)):=(bR _ _).alloc (lR _) _;have hcl:=d.len HM;have hh:(W.alloc (.cells cs.toArray e)).heap[W.heap.size]? = some (.cells cs.toArray e (0,0)):=by
  show (W.heap.push _)[W.heap.size]? = _;simp
 obtain ⟨v1,w1,hr,h1,h2,h3,h4⟩:=Kd.own_run (P:=P) (w0:=w0) (W:=W.alloc (.cells cs.toArray e)) d base t o.type e z bytes ht hinfo hz v xs [y] (some ⟨W.heap.size,0,none⟩) 1 ok (Kd.own_alloc HO _)
  (fun i q hq=>by
   have:i = 0/\q = y:=by
    cases i with
    | zero=>simp at hq;exact ⟨rfl,hq.symm⟩
    | succ i=>simp at hq
   obtain ⟨rfl,rfl⟩:=this;refine ⟨_,cs,rfl,Kd.M_below HM hbel,fun j u hu=>?_⟩;rw [Nat.zero_mul,Nat.zero_add,add_plain];rw [World.cell?,hh];simpa using hu)
  (fun h=>by cases h) (HB.alloc hbase _) (by have:=hbel.size;omega) hl hb0
 refine wpListIn_plain hgd fun K hK=>?_
 have hr':(Builtin.append_ #[t,t] o.type #[v,.slice (some ⟨W.heap.size,0,none⟩) 1 1]).run P (W.alloc (.cells cs.toArray e)) = .ok v1 w1:=hr;unfold Oper.wpIn;refine ⟨?_,?_⟩
 ·
  simp [Oper.about,ho,resolve,Target.leads,Sem.run_pure]
 ·
  rw [Oper.semAt_plain F _ _ (by rw [ho];intro c hc';cases hc')];simp only [execOp,ho,resolve,invoke,builtin,Sem.run_bind,Sem.run_pure,Result.andThen_ok,List.map_toArray,List.map_cons,List.map_nil,hs,hx,hr'];exact hK _ _ (h v1 w1 h1 h2 ⟨h3.os.trans hbel.os,h3.tape.trans hbel.tape,h3.output.trans hbel.output,Zh hbel.size h3.size,fun k hk hne=>(h3.block k (by have:=hbel.size;omega) hne).trans (hbel.block k hk)⟩)
def FF:Nat -> Prop:=fun _=>False
theorem own_kept {W W':World} {base:Nat} {v:Value} {T:List Triple} {row:Option Nat} (h:triK.own 36 W base FF v T) (hg:W.grownBy W' row) (hne:∀ k,v.ownBlock = some k -> some k ≠ row):triK.own 36 W' base FF v T:=
 Kd.own_move (fun k hk hlt=>by
  rcases hk with hk | hk
  ·
   exact hk.elim
  ·
   exact hg.block k hlt (hne k hk)) h
theorem own_cells {W:World} {base:Nat} {v:Value} {T:List Triple} (h:triK.own 36 W base FF v T) {k:Nat} (hk:v.ownBlock = some k):base <= k/\∃ C,W.heap[k]? = some (.cells C 36 (0,0)):=by
 obtain ⟨_,cells,ho,_⟩:=h;rcases ho.2 with ⟨rfl,_⟩ | ⟨g,cap,cur,rfl,hb,hh,_⟩
 ·
  simp [Value.ownBlock] at hk
 ·
  obtain rfl:g = k:=by simpa [Value.ownBlock] using hk
  exact ⟨hb,_,hh⟩
theorem box_ne {W:World} {B t:Nat} {u:Value} (hB:Boxed W B t u) (ht:t ≠ 36) {base:Nat} {v:Value} {T:List Triple} (h:triK.own 36 W base FF v T):some B ≠ v.ownBlock:=fun e=>by
 obtain ⟨_,C,hC⟩:=own_cells h e.symm
 have:=(show W.heap[B]? = _ from hB).symm.trans hC
 simp at this
 exact ht this.2
theorem box_not {W:World} {B t:Nat} {u:Value} (hB:Boxed W B t u) {row:Option Nat} (hr:∀ r,row = some r -> ∃ o:Obj,W.heap[r]? = some o/\o.isCells = false):some B ≠ row:=fun e=>by
 obtain ⟨o,h1,h2⟩:=hr B e.symm
 rw [show W.heap[B]? = _ from hB] at h1
 cases h1
 cases h2
theorem own_not {W:World} {base:Nat} {v:Value} {T:List Triple} (h:triK.own 36 W base FF v T) {row:Option Nat} (hr:∀ r,row = some r -> ∃ o:Obj,W.heap[r]? = some o/\o.isCells = false):∀ k,v.ownBlock = some k -> some k ≠ row:=fun k hk e=>by
 obtain ⟨_,C,hC⟩:=own_cells h hk
 obtain ⟨o,h1,h2⟩:=hr k e.symm
 rw [hC] at h1
 cases h1
 cases h2
theorem keeps_below {W W':World} (h:Below W.heap.size W W'):KeepsOthers W W':=⟨h.size,fun b o hb _=>(h.block b (Array.getElem?_eq_some_iff.1 hb).1).trans hb⟩
theorem box_below {W W':World} {B t:Nat} {u:Value} (h:Boxed W B t u) (hb:Below W.heap.size W W'):Boxed W' B t u:=(hb.block B h.lt).trans h
theorem pushed {W w1:World} {n₀ Bl ty:Nat} {v v1:Value} {xs ys:List Triple} (hv:Boxed W Bl ty v) (hte:ty ≠ 36) (ho:triK.own 36 W n₀ FF v xs) (hB:n₀ <= Bl) (ho1:triK.own 36 w1 n₀ FF v1 ys) (hg:W.grownBy w1 v.ownBlock) (hb:Below n₀ W w1) :
  Boxed w1 Bl ty v/\Boxed (w1.setCell ⟨Bl,0,none⟩ v1) Bl ty v1/\triK.own 36 (w1.setCell ⟨Bl,0,none⟩ v1) n₀ FF v1 ys/\KeepsOthers W (w1.setCell ⟨Bl,0,none⟩ v1)/\Below n₀ W (w1.setCell ⟨Bl,0,none⟩ v1) /\
   ∀ B t u,Boxed W B t u -> t ≠ 36 -> B ≠ Bl -> Boxed (w1.setCell ⟨Bl,0,none⟩ v1) B t u:=by
 have hv1:Boxed w1 Bl ty v:=hv.kept hg (box_ne hv hte ho);refine ⟨hv1,hv1.set v1,own_kept ho1 (grownBy_setCell' w1 Bl v1) (fun k hk e=>?_),?_,hb.setCell (p:=⟨Bl,0,none⟩) hB v1,fun B t u hu ht hne=>?_⟩
 ·
  obtain rfl:k = Bl:=by simpa using e
  exact box_ne hv1 hte ho1 hk.symm
 ·
  refine (KeepsOthers.of_grownBy hg fun j o ej hj=>?_).trans (KeepsOthers.setCell _ _ _);obtain ⟨_,C,hC⟩:=own_cells ho ej;rw [hC] at hj;cases hj;rfl
 ·
  exact (hu.kept hg (box_ne hu ht ho)).kept (grownBy_setCell' w1 Bl v1) (fun e=>hne (by simpa using e))
end TripW
namespace TripW
open Go.RowKit Go.Lib Go.Shelf B Rd TermPure LinesPure Tri ChunkW SortW
attribute [local go_sem] Oper.semAt_some
structure TI (s g:Nat) (sv:Value) (W:World) (v:Value) (T:List Triple):Prop where
 l:Boxed W (s + 1 + 1 + 1) 22 v
 own:triK.own 36 W s FF v T
 d:Boxed W s 106 (.pointer (some ⟨g,0,none⟩))
 r4:Boxed W (s + 1) 22 (.slice none 0 0)
 r5:Boxed W (s + 1 + 1) 4 (.bool false)
 bs:Boxed W (s + 1 + 1 + 1 + 1) 74 sv
 bn:Boxed W (s + 1 + 1 + 1 + 1 + 1) 3 (.int .i64 3)
theorem TI.kept {s g:Nat} {sv:Value} {W W':World} {v:Value} {T:List Triple} {row:Option Nat} (h:TI s g sv W v T) (hg:W.grownBy W' row) (hr:∀ r,row = some r -> ∃ o:Obj,W.heap[r]? = some o/\o.isCells = false):TI s g sv W' v T:=
 ⟨h.l.kept hg (box_not h.l hr),own_kept h.own hg (own_not h.own hr),h.d.kept hg (box_not h.d hr),h.r4.kept hg (box_not h.r4 hr),h.r5.kept hg (box_not h.r5 hr),h.bs.kept hg (box_not h.bs hr),h.bn.kept hg (box_not h.bn hr)⟩
theorem TI.below {s g:Nat} {sv:Value} {W W':World} {v:Value} {T:List Triple} (h:TI s g sv W v T) (hb:Below W.heap.size W W'):TI s g sv W' v T:=
 ⟨box_below h.l hb,Kd.own_below h.own hb,box_below h.d hb,box_below h.r4 hb,box_below h.r5 hb,box_below h.bs hb,box_below h.bn hb⟩
theorem TI.new (g:Nat) (w:World) (v1:Value):TI w.heap.size g v1 ((((((w.alloc (.cells #[.pointer (some ⟨g,0,none⟩)] 106)).alloc (.cells #[.slice none 0 0] 22)).alloc (.cells #[.bool false] 4)).alloc (.cells #[.slice none 0 0] 22)).alloc (.cells #[v1] 74)).alloc (.cells #[.int .i64 3] 3)) (.slice none 0 0) []:=by
 have s1:(w.alloc (.cells #[.pointer (some ⟨g,0,none⟩)] 106)).heap.size = w.heap.size + 1:=by simp
 have s2:((w.alloc (.cells #[.pointer (some ⟨g,0,none⟩)] 106)).alloc (.cells #[.slice none 0 0] 22)).heap.size = w.heap.size + 1 + 1:=by simp
 have s3:(((w.alloc (.cells #[.pointer (some ⟨g,0,none⟩)] 106)).alloc (.cells #[.slice none 0 0] 22)).alloc (.cells #[.bool false] 4)).heap.size = w.heap.size + 1 + 1 + 1:=by simp
 have b0:=Boxed.new w 106 (.pointer (some ⟨g,0,none⟩));have b1:=Boxed.new (w.alloc (.cells #[.pointer (some ⟨g,0,none⟩)] 106)) 22 (.slice none 0 0);have b2:=Boxed.new ((w.alloc (.cells #[.pointer (some ⟨g,0,none⟩)] 106)).alloc (.cells #[.slice none 0 0] 22)) 4 (.bool false);have b3:=Boxed.new (((w.alloc (.cells #[.pointer (some ⟨g,0,none⟩)] 106)).alloc (.cells #[.slice none 0 0] 22)).alloc (.cells #[.bool false] 4)) 22 (.slice none 0 0);have s4:((((w.alloc (.cells #[.pointer (some ⟨g,0,none⟩)] 106)).alloc (.cells #[.slice none 0 0] 22)).alloc (.cells #[.bool false] 4)).alloc (.cells #[.slice none 0 0] 22)).heap.size = w.heap.size + 1 + 1 + 1 + 1:=by simp
 have s5:(((((w.alloc (.cells #[.pointer (some ⟨g,0,none⟩)] 106)).alloc (.cells #[.slice none 0 0] 22)).alloc (.cells #[.bool false] 4)).alloc (.cells #[.slice none 0 0] 22)).alloc (.cells #[v1] 74)).heap.size = w.heap.size + 1 + 1 + 1 + 1 + 1:=by simp
 have b4:=Boxed.new ((((w.alloc (.cells #[.pointer (some ⟨g,0,none⟩)] 106)).alloc (.cells #[.slice none 0 0] 22)).alloc (.cells #[.bool false] 4)).alloc (.cells #[.slice none 0 0] 22)) 74 v1;have b5:=Boxed.new (((((w.alloc (.cells #[.pointer (some ⟨g,0,none⟩)] 106)).alloc (.cells #[.slice none 0 0] 22)).alloc (.cells #[.bool false] 4)).alloc (.cells #[.slice none 0 0] 22)).alloc (.cells #[v1] 74)) 3 (.int .i64 3);rw [s4] at b4;rw [s5] at b5;rw [s1] at b1;rw [s2] at b2;rw [s3] at b3;exact ⟨(b3.alloc _).alloc _,Kd.own_nil _ _ _ _ _,((((b0.alloc _).alloc _).alloc _).alloc _).alloc _,(((b1.alloc _).alloc _).alloc _).alloc _,((b2.alloc _).alloc _).alloc _,b4.alloc _,b5⟩
def Arr (W:World) (G:Nat) (t:Triple):Prop:=W.heap[G]? = some (.cells (triL t).toArray 171 (0,0))
theorem Arr.lt {W:World} {G:Nat} {t:Triple} (h:Arr W G t):G < W.heap.size:=(Array.getElem?_eq_some_iff.1 h).1
theorem Arr.below {W W':World} {G:Nat} {t:Triple} (h:Arr W G t) (hb:Below W.heap.size W W'):Arr W' G t:=(hb.block G h.lt).trans h
theorem Arr.cell {W:World} {G:Nat} {t:Triple} (h:Arr W G t) (j:Nat) {v:Value} (hj:(triL t)[j]? = some v):W.cell? ⟨G,j,none⟩ = some v:=by
 unfold World.cell?;dsimp only;rw [show W.heap[G]? = _ from h];simpa using hj
theorem Arr.frozen {W:World} {G:Nat} {t:Triple} (h:Arr W G t) (j:Nat):W.frozen? ⟨G,j,none⟩ = false:=by
 unfold World.frozen?;dsimp only;rw [show W.heap[G]? = _ from h]
 try rfl
theorem set_heap {W:World} {G k:Nat} {C:Array Value} {e:TypeId} (h:W.heap[G]? = some (.cells C e (0,0))) (v:Value):(W.setCell ⟨G,k,none⟩ v).heap[G]? = some (.cells (C.setIfInBounds k v) e (0,0)):=by
 obtain ⟨hlt,hk⟩:=Array.getElem?_eq_some_iff.1 h;show (W.heap.modify G _)[G]? = _;rw [Array.getElem?_eq_getElem (by rw [Array.size_modify];exact hlt),Array.getElem_modify_self,hk]
 try rfl
theorem Arr.new (W:World):Arr (W.alloc (.cells #[.int .i64 0,.string ⟨#[]⟩,.string ⟨#[]⟩,.int .i64 0,.string ⟨#[]⟩,.string ⟨#[]⟩,.int .i64 0,.string ⟨#[]⟩,.string ⟨#[]⟩] 171)) W.heap.size ⟨⟨0,[],[]⟩,⟨0,[],[]⟩,⟨0,[],[]⟩⟩:=World.alloc_heap_new W _
theorem Arr.set0 {W:World} {G:Nat} {a b c:Term} (h:Arr W G ⟨a,b,c⟩) (u:Term):Arr (((W.setCell ⟨G,0,none⟩ (.int .i64 u.kind)).setCell ⟨G,1,none⟩ (.string (mkS u.text))).setCell ⟨G,2,none⟩ (.string (mkS u.extra))) G ⟨u,b,c⟩:=set_heap (set_heap (set_heap h _) _) _
theorem Arr.set1 {W:World} {G:Nat} {a b c:Term} (h:Arr W G ⟨a,b,c⟩) (u:Term):Arr (((W.setCell ⟨G,3,none⟩ (.int .i64 u.kind)).setCell ⟨G,4,none⟩ (.string (mkS u.text))).setCell ⟨G,5,none⟩ (.string (mkS u.extra))) G ⟨a,u,c⟩:=set_heap (set_heap (set_heap h _) _) _
theorem Arr.set2 {W:World} {G:Nat} {a b c:Term} (h:Arr W G ⟨a,b,c⟩) (u:Term):Arr (((W.setCell ⟨G,6,none⟩ (.int .i64 u.kind)).setCell ⟨G,7,none⟩ (.string (mkS u.text))).setCell ⟨G,8,none⟩ (.string (mkS u.extra))) G ⟨a,b,u⟩:=set_heap (set_heap (set_heap h _) _) _
theorem Arr.upd {W:World} {G m:Nat} (hm:m <= G) (w0:World) (hb:Below m w0 W) (k1 k2 k3:Nat) (v1 v2 v3:Value):Below m w0 (((W.setCell ⟨G,k1,none⟩ v1).setCell ⟨G,k2,none⟩ v2).setCell ⟨G,k3,none⟩ v3):=
 ((hb.setCell (p:=⟨G,k1,none⟩) hm v1).setCell (p:=⟨G,k2,none⟩) hm v2).setCell (p:=⟨G,k3,none⟩) hm v3
theorem bad_out {NoMk:Prop} {N:Nat} {Pt:List (Fin N) -> List Triple -> Prop} {s g:Nat} {sv:Value} {w W w2:World} {v:Value} {T:List Triple} {ys:List (Fin N)} {a:Act} {C:Array Value} {e:TypeId} (hno:NoMk) (hT:TI s g sv w2 v T) (hW:Below W.heap.size W w2) (hB:Below s w w2) (hs:s <= W.heap.size) (hx:Below s w W) :
  ownPostK (ChunkW.Kept s (s + 1 + 1 + 1 + 1) (s + 1 + 1 + 1 + 1 + 1)) (fun pre W=>(∃ v T,TI s g sv W v T/\Pt pre T)/\Below s w W)
   (fun c pre W=>(c = .ret/\NoMk/\Boxed W (s + 1) 22 (.slice none 0 0)/\Boxed W (s + 1 + 1) 4 (.bool false))/\Below s w W) ys W .ret a (((w2.alloc (.cells C e)).setCell ⟨s + 1,0,none⟩ (.slice none 0 0)).setCell ⟨s + 1 + 1,0,none⟩ (.bool false)):=by
 have h4:=(hT.r4.alloc (.cells C e)).set (.slice none 0 0);have h5:=(hT.r5.alloc (.cells C e)).kept (grownBy_setCell' _ (s + 1) (.slice none 0 0)) (by simp);refine ⟨?_,⟨rfl,hno,h4.kept (grownBy_setCell' _ (s + 1 + 1) (.bool false)) (by simp),h5.set _⟩,?_⟩
 ·
  exact (keeps_below (bel_alloc hW _)).trans ((KeepsOthers.setCell _ _ _).trans (KeepsOthers.setCell _ _ _))
 ·
  exact ((hB.trans ((bel_alloc (bR w2.heap.size w2) _).mono (by have:=hW.size;omega))).setCell (p:=⟨s + 1,0,none⟩) (by simp) _).setCell (p:=⟨s + 1 + 1,0,none⟩) (by simp;omega) _
theorem round_out {NoMk:Prop} {N:Nat} {Pt:List (Fin N) -> List Triple -> Prop} {s g:Nat} {sv:Value} {w W wr w5:World} {v v1:Value} {T T5:List Triple} {ys:List (Fin N)} {a:Act} (hT:TI s g sv W v T) (hW:Below W.heap.size W wr) (hB:Below s w W) (hs:s <= W.heap.size)
  (hP:Boxed w5 (s + 1 + 1 + 1) 22 v/\Boxed (w5.setCell ⟨s + 1 + 1 + 1,0,none⟩ v1) (s + 1 + 1 + 1) 22 v1/\triK.own 36 (w5.setCell ⟨s + 1 + 1 + 1,0,none⟩ v1) s FF v1 T5/\KeepsOthers wr (w5.setCell ⟨s + 1 + 1 + 1,0,none⟩ v1)/\Below s wr (w5.setCell ⟨s + 1 + 1 + 1,0,none⟩ v1) /\
   ∀ B t u,Boxed wr B t u -> t ≠ 36 -> B ≠ s + 1 + 1 + 1 -> Boxed (w5.setCell ⟨s + 1 + 1 + 1,0,none⟩ v1) B t u) (hPt:Pt ys T5) :
  ownPostK (ChunkW.Kept s (s + 1 + 1 + 1 + 1) (s + 1 + 1 + 1 + 1 + 1)) (fun pre W=>(∃ v T,TI s g sv W v T/\Pt pre T)/\Below s w W)
   (fun c pre W=>(c = .ret/\NoMk/\Boxed W (s + 1) 22 (.slice none 0 0)/\Boxed W (s + 1 + 1) 4 (.bool false))/\Below s w W) ys W .normal a (w5.setCell ⟨s + 1 + 1 + 1,0,none⟩ v1):=by
 have hT2:=hT.below hW;obtain ⟨_,p2,p3,p4,p5,p6⟩:=hP;have k4:=p6 _ _ _ hT2.bs (by decide) (by omega);have k5:=p6 _ _ _ hT2.bn (by decide) (by omega);refine ⟨(keeps_below hW).trans p4,⟨(hW.mono hs).trans p5,k4.trans hT.bs.symm,k5.trans hT.bn.symm⟩,⟨v1,T5,⟨p2,p3,p6 _ _ _ hT2.d (by decide) (by omega),p6 _ _ _ hT2.r4 (by decide) (by omega),p6 _ _ _ hT2.r5 (by decide) (by omega),k4,k5⟩,hPt⟩,(hB.trans (hW.mono hs)).trans p5⟩
def NQ (K:Act -> World -> Prop):Exit -> Act -> World -> Prop
 | .normal,a,w=>K a w
 | _,_,_=>False
theorem wp_nq {P:Program} {c:Code} {Q:Exit -> Act -> World -> Prop} {a:Act} {w:World} {K:Act -> World -> Prop} (hk:∀ a w,K a w -> Q .normal a w) (h:c.wp P (NQ K) a w):c.wp P Q a w:=
 wp_mono h (fun e a w hq=>by cases e <;> first | exact hk _ _ hq | exact hq.elim)
theorem done_out {s g D:Nat} {sv:Value} {w0 W w2:World} {A7:Option Addr} {c7 n7:Nat} {T:List Triple} {r:Bool} (hT:TI s g sv w2 (.slice A7 n7 c7) T) (hW:Below W.heap.size W w2) (hB:Below s w0 W) (hs:s <= W.heap.size) (hD:s <= D) (hK:W.heap[D]? = some (.deferred (some []))) :
  ((w2.setCell ⟨s + 1,0,none⟩ (.slice A7 n7 c7)).setCell ⟨s + 1 + 1,0,none⟩ (.bool r)).heap[D]? = some (.deferred (some [])) /\
  (((w2.setCell ⟨s + 1,0,none⟩ (.slice A7 n7 c7)).setCell ⟨s + 1 + 1,0,none⟩ (.bool r)).putObj D (.deferred none)).cell? ⟨s + 1,0,none⟩ = some (.slice A7 n7 c7) /\
  (((w2.setCell ⟨s + 1,0,none⟩ (.slice A7 n7 c7)).setCell ⟨s + 1 + 1,0,none⟩ (.bool r)).putObj D (.deferred none)).cell? ⟨s + 1 + 1,0,none⟩ = some (.bool r) /\
  triK.sl.M (((w2.setCell ⟨s + 1,0,none⟩ (.slice A7 n7 c7)).setCell ⟨s + 1 + 1,0,none⟩ (.bool r)).putObj D (.deferred none)) (fun _=>True) T [.slice A7 n7 c7] /\
  Below s w0 (((w2.setCell ⟨s + 1,0,none⟩ (.slice A7 n7 c7)).setCell ⟨s + 1 + 1,0,none⟩ (.bool r)).putObj D (.deferred none)):=by
 have hk2:w2.heap[D]? = some (.deferred (some [])):=(hW.block D (Array.getElem?_eq_some_iff.1 hK).1).trans hK;have hk3:=(KeepsOthers.setCell w2 ⟨s + 1,0,none⟩ (.slice A7 n7 c7)).same D _ hk2 rfl;have hk4:=(KeepsOthers.setCell (w2.setCell ⟨s + 1,0,none⟩ (.slice A7 n7 c7)) ⟨s + 1 + 1,0,none⟩ (.bool r)).same D _ hk3 rfl;have b4:=(hT.r4.set (.slice A7 n7 c7)).kept (grownBy_setCell' _ (s + 1 + 1) (.bool r)) (by simp);have b5:=(hT.r5.kept (grownBy_setCell' w2 (s + 1) (.slice A7 n7 c7)) (by simp)).set (.bool r);have hr:∀ q,some D = some q -> ∃ o:Obj,((w2.setCell ⟨s + 1,0,none⟩ (.slice A7 n7 c7)).setCell ⟨s + 1 + 1,0,none⟩ (.bool r)).heap[q]? = some o/\o.isCells = false:=fun q e=>by cases e;exact ⟨_,hk4,rfl⟩
 have o1:=own_kept hT.own (grownBy_setCell' w2 (s + 1) (.slice A7 n7 c7)) (fun k hk e=>box_ne hT.r4 (by decide) hT.own (by rw [hk];exact e.symm));have o2:=own_kept o1 (grownBy_setCell' _ (s + 1 + 1) (.bool r)) (fun k hk e=>box_ne (hT.r5.kept (grownBy_setCell' w2 (s + 1) (.slice A7 n7 c7)) (by simp)) (by decide) o1 (by rw [hk];exact e.symm));have o3:=own_kept o2 (grownBy_putObj' _ D (.deferred none)) (own_not o2 hr);refine ⟨hk4,(b4.kept (grownBy_putObj' _ D (.deferred none)) (box_not b4 hr)).cell,(b5.kept (grownBy_putObj' _ D (.deferred none)) (box_not b5 hr)).cell,Kd.own_sl o3 (fun _ _=>trivial) (fun _ _=>trivial),?_⟩;have h1:=((hB.trans (hW.mono hs)).setCell (p:=⟨s + 1,0,none⟩) (by simp) (.slice A7 n7 c7)).setCell (p:=⟨s + 1 + 1,0,none⟩) (by simp;omega) (.bool r);exact ⟨h1.os,h1.tape,h1.output,by have:=h1.size;simpa using this,fun k hk=>(World.putObj_heap_other (by omega)).trans (h1.block k hk)⟩
theorem trip_core (NoMk:Prop) (N:Nat) (Pt:List (Fin N) -> List Triple -> Prop) (Q:Nat -> Term -> Prop) (Bad:Nat -> Prop) (tx:Nat -> List UInt8) (num:Fin N -> Nat -> Nat) (g M c b off:Nat) (A:Option Addr) (w:World)
  (hA:0 < N -> A = some ⟨b,off,none⟩) (hM1:M <= 3 * N) (hM2:3 * N <= M) (hN:N <= 100) (hlc:M <= c) (hcap:c <= maxLen)
  (hPt:Pt [] []) (hPs:∀ pre x T t0 t1 t2,Pt pre T -> Q (num x 0) t0 -> Q (num x 1) t1 -> Q (num x 2) t2 -> Pt (pre ++ [x]) (T ++ [⟨t0,t1,t2⟩])) (hPl:∀ pre T,Pt pre T -> T.length = pre.length)
  (hnum:∀ x j,num x j <= 1000000) (hfit:∀ n t,Q n t -> FitsW t) (hBad:∀ x j,j < 3 -> Bad (num x j) -> NoMk)
  (hcell:∀ (x:Fin N) j,j < 3 -> ∀ W,Below w.heap.size w W -> W.cell? ⟨b,off + 3 * x.1 + j,none⟩ = some (.int .i64 (num x j:Nat)))
  (HX:∀ (q:Nat),q <= 1000000 -> ∀ W,Below w.heap.size w W -> Calls Tryz.prog 114 #[.pointer (some ⟨g,0,none⟩),.int .i64 q] W fun e w'=>e = .returned (.string (mkS (tx q)))/\W = w')
  (HSh:∀ (q:Nat) W,Below w.heap.size w W -> Calls Tryz.prog 113 #[.string (mkS (tx q))] W fun e w'=>((∃ t,Q q t/\e = .returned (.tuple #[.agg #[.int .i64 t.kind,.string (mkS t.text),.string (mkS t.extra)],.bool true])) \/ (Bad q/\∃ t:Term,e = .returned (.tuple #[.agg #[.int .i64 t.kind,.string (mkS t.text),.string (mkS t.extra)],.bool false])))/\Below W.heap.size W w')
  (HC:∀ T,Pt (List.finRange N) T -> ∀ A c W,Below w.heap.size w W -> triK.sl.M W (fun k=>k < W.heap.size) T [.slice A T.length c] -> Calls Tryz.prog 115 #[.slice A T.length c,.func (.func 116) #[] #[]] W fun e w'=>e = .returned (.bool (!T.all isTriple))/\Below W.heap.size W w') :
  Calls Tryz.prog 70 #[.pointer (some ⟨g,0,none⟩),.slice A M c] w fun e w'=>((NoMk/\∃ v,e = .returned (.tuple #[v,.bool false])) \/ ∃ T A' c',Pt (List.finRange N) T/\e = .returned (.tuple #[.slice A' T.length c',.bool (T.all isTriple)])/\triK.sl.M w' (fun _=>True) T [.slice A' T.length c'])/\Below w.heap.size w w':=by
 refine (callsIn_wide (n:=9)).1 ?_;refine callsIn_of_wp_marks func70 rfl trivial ?_ rfl;simp only [ntmps70,List.size_toArray,Zc,List.length_nil,Nat.reduceAdd,Nat.reduceSub,Array.replicate_succ,Array.replicate_zero,List.push_toArray,List.append_toArray,Zf,List.cons_append];gi_wp2_with (refine ⟨trivial,?_⟩;gi_at_call 112;refine (callsIn_wide.2 (chunk_calls A M c _)).mono ?_;rintro e w' ⟨rfl,rfl⟩)
 have hTI0:=TI.new g w (.slice A M c);have hB0:Below w.heap.size w ((((((w.alloc (.cells #[.pointer (some ⟨g,0,none⟩)] 106)).alloc (.cells #[.slice none 0 0] 22)).alloc (.cells #[.bool false] 4)).alloc (.cells #[.slice none 0 0] 22)).alloc (.cells #[.slice A M c] 74)).alloc (.cells #[.int .i64 3] 3)):=bel_alloc (bel_alloc (bel_alloc (bel_alloc (bel_alloc (bel_alloc (bR _ _) _) _) _) _) _) _;have hcs:((((((w.alloc (.cells #[.pointer (some ⟨g,0,none⟩)] 106)).alloc (.cells #[.slice none 0 0] 22)).alloc (.cells #[.bool false] 4)).alloc (.cells #[.slice none 0 0] 22)).alloc (.cells #[.slice A M c] 74)).alloc (.cells #[.int .i64 3] 3)).cell? ⟨w.heap.size + 1 + 1 + 1 + 1,0,none⟩ = some (.slice A M c):=by
  have h:=(Boxed.new ((((w.alloc (.cells #[.pointer (some ⟨g,0,none⟩)] 106)).alloc (.cells #[.slice none 0 0] 22)).alloc (.cells #[.bool false] 4)).alloc (.cells #[.slice none 0 0] 22)) 74 (.slice A M c)).alloc (.cells #[.int .i64 3] 3);rw [show ((((w.alloc (.cells #[.pointer (some ⟨g,0,none⟩)] 106)).alloc (.cells #[.slice none 0 0] 22)).alloc (.cells #[.bool false] 4)).alloc (.cells #[.slice none 0 0] 22)).heap.size = w.heap.size + 1 + 1 + 1 + 1 by simp] at h;exact h.cell
 have hcn:((((((w.alloc (.cells #[.pointer (some ⟨g,0,none⟩)] 106)).alloc (.cells #[.slice none 0 0] 22)).alloc (.cells #[.bool false] 4)).alloc (.cells #[.slice none 0 0] 22)).alloc (.cells #[.slice A M c] 74)).alloc (.cells #[.int .i64 3] 3)).cell? ⟨w.heap.size + 1 + 1 + 1 + 1 + 1,0,none⟩ = some (.int .i64 3):=by
  have h:=Boxed.new (((((w.alloc (.cells #[.pointer (some ⟨g,0,none⟩)] 106)).alloc (.cells #[.slice none 0 0] 22)).alloc (.cells #[.bool false] 4)).alloc (.cells #[.slice none 0 0] 22)).alloc (.cells #[.slice A M c] 74)) 3 (.int .i64 3);rw [show (((((w.alloc (.cells #[.pointer (some ⟨g,0,none⟩)] 106)).alloc (.cells #[.slice none 0 0] 22)).alloc (.cells #[.bool false] 4)).alloc (.cells #[.slice none 0 0] 22)).alloc (.cells #[.slice A M c] 74)).heap.size = w.heap.size + 1 + 1 + 1 + 1 + 1 by simp] at h;exact h.cell
 have hsz:((((((w.alloc (.cells #[.pointer (some ⟨g,0,none⟩)] 106)).alloc (.cells #[.slice none 0 0] 22)).alloc (.cells #[.bool false] 4)).alloc (.cells #[.slice none 0 0] 22)).alloc (.cells #[.slice A M c] 74)).alloc (.cells #[.int .i64 3] 3)).heap.size = w.heap.size + 1 + 1 + 1 + 1 + 1 + 1:=by simp
 obtain ⟨W0,hW0⟩:∃ W0,((((((w.alloc (.cells #[.pointer (some ⟨g,0,none⟩)] 106)).alloc (.cells #[.slice none 0 0] 22)).alloc (.cells #[.bool false] 4)).alloc (.cells #[.slice none 0 0] 22)).alloc (.cells #[.slice A M c] 74)).alloc (.cells #[.int .i64 3] 3)) = W0:=⟨_,rfl⟩;rw [hW0] at hTI0 hB0 hcs hcn hsz |-;clear hW0;obtain ⟨s,hs⟩:∃ s,w.heap.size = s:=⟨_,rfl⟩;rw [hs] at hTI0 hB0 hcs hcn hsz hcell HX HSh HC |-;refine wpIn_rangeFunc_ownF rfl (by decide) (gf:=149) (lb:=#[.pointer (some ⟨s + 1 + 1 + 1 + 1,0,none⟩),.pointer (some ⟨s + 1 + 1 + 1 + 1 + 1,0,none⟩)]) rfl trivial (enters_of func149 (by kernel_rfl) rfl)
  (chunk_stops 8 (by decide) (s + 1 + 1 + 1 + 1) (s + 1 + 1 + 1 + 1 + 1) s b off N M c A hA hM1 hM2 (by omega) hlc hcap W0 (by omega) (by omega) hcs hcn)
  (fun h k=>h.trans k) ?kb (bR _ _) (fun _=>rfl)
  (fun pre W=>(∃ v T,TI s g (.slice A M c) W v T/\Pt pre T)/\Below s w W)
  (fun c pre W=>(c = .ret/\NoMk/\Boxed W (s + 1) 22 (.slice none 0 0)/\Boxed W (s + 1 + 1) 4 (.bool false))/\Below s w W)
  ?hI ?hIx
  ⟨⟨_,_,hTI0,hPt⟩,hB0⟩
  (fun x=>{ tmps:=#[.pointer (some ⟨g,0,none⟩),.slice A M c,.pointer (some ⟨s,0,none⟩),undef,.pointer (some ⟨s + 1,0,none⟩),.pointer (some ⟨s + 1 + 1,0,none⟩),.pointer (some ⟨s + 1 + 1 + 1,0,none⟩),ChunkW.part b off x.1,undef,undef,undef,undef,undef,.slice A M c,.func (.func 149) #[] #[.pointer (some ⟨s + 1 + 1 + 1 + 1,0,none⟩),.pointer (some ⟨s + 1 + 1 + 1 + 1 + 1,0,none⟩)],ChunkW.part b off x.1,undef,undef,undef,undef,undef,undef,undef,undef,undef,undef,undef,undef,undef,undef,undef,undef,undef,undef,undef,undef,undef,undef,undef,undef,undef,undef,undef,undef,undef,undef,undef,undef,undef,undef],defers:=[] }) ?assign ?body ?done ?stop
 case kb =>
  intro W l o o' hl ho hc1 hc2;refine ⟨belowK_b (w:=W0) (n₀:=s) (by omega) W l o o' hl ho hc1 hc2,?_,?_⟩
  ·
   exact World.putObj_heap_other (by omega)
  ·
   exact World.putObj_heap_other (by omega)
 case hI=>exact OwnFrom.and (Own.from (fun st X Y row h hg hr=>by
   obtain ⟨v,T,h1,h2⟩:=h;exact ⟨v,T,h1.kept hg hr,h2⟩) _) (ownFrom_below (by omega) (by omega))
 case hIx=>exact fun c=>OwnFrom.and (Own.from (fun st X Y row h hg hr=>⟨h.1,h.2.1,h.2.2.1.kept hg (box_not h.2.2.1 hr),h.2.2.2.kept hg (box_not h.2.2.2 hr)⟩) _) (ownFrom_below (by omega) (by omega))
 case assign =>
  intro l x W K hK;gi_wp2;exact hK
 case body =>
  rintro l pre x W ⟨⟨v,T,hTI,hP⟩,hB⟩ hpl;unfold ChunkW.part;have HTI:=Zz hTI;have HP:=Zz hP;have HB:=Zz hB;have HXd:=Zz HX;have HSd:=Zz HSh;have HCl:=Zz (hcell x);have HBd:=Zz (hBad x);have HFt:=Zz hfit;have HPl:=Zz hPl;have HPs:=Zz hPs;have hn0:=hnum x 0;have hn1:=hnum x 1;have hn2:=hnum x 2;have hws:s <= W.heap.size:=by have:=hB.size;omega
  have hbd:=hTI.d.cell;clear hTI hP hB HX HSh HC hBad hfit hTI0 hB0 hcs hcn hPs hPl hnum hPt;clear hcell;have hA0:=Arr.new W;have hb0:Below W.heap.size W (W.alloc (.cells #[.int .i64 0,.string ⟨#[]⟩,.string ⟨#[]⟩,.int .i64 0,.string ⟨#[]⟩,.string ⟨#[]⟩,.int .i64 0,.string ⟨#[]⟩,.string ⟨#[]⟩] 171)):=bel_alloc (bR _ _) _;have HA0:=Zz hA0;have HBL0:=Zz hb0;clear hA0 hb0;gi_wp2;gi_loopw [18] (fun v18 wr=>∃ (j:Nat) (t:Triple),v18 = .int .i64 j/\j <= 3/\Hid (Arr wr W.heap.size t)/\Hid ((0 < j -> Q (num x 0) t.s)/\(1 < j -> Q (num x 1) t.p)/\(2 < j -> Q (num x 2) t.o))/\Hid (Below W.heap.size W wr)) (fun v18 _=>3 - (intOf v18).toNat)
  case atStart=>exact ⟨0,_,rfl,by omega,HA0,Zz ⟨fun h=>absurd h (by omega),fun h=>absurd h (by omega),fun h=>absurd h (by omega)⟩,HBL0⟩
  case round =>
   obtain ⟨j,t,rfl,hj,HAr,HQ,HW⟩:=hrel;clear HA0 HBL0;by_cases hj3:j < 3
   ·
    obtain rfl | rfl | rfl:j = 0 \/ j = 1 \/ j = 2:=by omega
    ·
     have hbw:Below s w wr:=HB.o.trans (HW.o.mono hws);have hq:=HCl.o 0 (by decide) wr hbw;rw [Nat.add_zero] at hq;have hbd2:=(HW.o.cell (p:=⟨s,0,none⟩) HTI.o.d.lt).trans hbd;gi_wp2_with (first | (refine ⟨trivial,?_⟩;gi_at_call 114;refine (CallsIn.inRound l (callsIn_wide.2 (HXd.o _ hn0 _ hbw))).mono ?_;rintro e w2 ⟨rfl,rfl⟩) | fail)
     refine ⟨trivial,?_⟩;refine (CallsIn.inRound l (callsIn_wide.2 (HSd.o _ _ hbw))).mono ?_;rintro e w2 ⟨hcase,hb2⟩;have HW2:=Zz (bel_step HW.o hb2);have HBw2:Hid (Below s w w2):=Zz (HB.o.trans (HW2.o.mono hws));rcases hcase with ⟨u,hQu,rfl⟩ | ⟨hbad,u,rfl⟩
     ·
      have HA2:=Zz (HAr.o.below hb2);have HQu:=Zz hQu;clear hq hbd2 hb2 hQu hbw;obtain ⟨ta,tb,tc⟩:=t;have a0:=fun o=>(HA2.o.below (bel_alloc (bR _ _) o)).cell 0 rfl
      have a1:=fun o=>(HA2.o.below (bel_alloc (bR _ _) o)).cell 1 rfl
      have a2:=fun o=>(HA2.o.below (bel_alloc (bR _ _) o)).cell 2 rfl
      have f0:=fun o=>(HA2.o.below (bel_alloc (bR _ _) o)).frozen 0
      have f1:=fun o=>(HA2.o.below (bel_alloc (bR _ _) o)).frozen 1
      have f2:=fun o=>(HA2.o.below (bel_alloc (bR _ _) o)).frozen 2
      have HWa:Hid (Below W.heap.size W (w2.alloc (.cells #[.int .i64 u.kind,.string (mkS u.text),.string (mkS u.extra)] 24))):=Zz (bel_alloc HW2.o _);have HAa:Hid (Arr (w2.alloc (.cells #[.int .i64 u.kind,.string (mkS u.text),.string (mkS u.extra)] 24)) W.heap.size ⟨ta,tb,tc⟩):=Zz (HA2.o.below (bel_alloc (bR _ _) _));gi_wp2;go_roundw
      case rel =>
       refine ⟨1,_,by first | rfl | (congr 1),by omega,Zz (HAa.o.set0 u),?_,Zz (Arr.upd (lR _) W HWa.o _ _ _ _ _ _)⟩;exact Zz ⟨fun h=>HQu.o,fun h=>absurd h (by omega),fun h=>absurd h (by omega)⟩
      case measure=>simp [intOf]
     ·
      have HNo:=Zz (HBd.o 0 (by decide) hbad);have HT2:=Zz (HTI.o.below HW2.o);have r4:=fun o=>(HT2.o.r4.alloc o).cell
      have r4f:=fun o=>(HT2.o.r4.alloc o).frozen
      have r5:=fun o=>(HT2.o.r5.alloc o).cell
      have r5f:=fun o=>(HT2.o.r5.alloc o).frozen
      clear hq hbd2 hb2 hbad hbw;gi_wp2;exact bad_out HNo.o HT2.o HW2.o HBw2.o hws HB.o
    ·
     have hbw:Below s w wr:=HB.o.trans (HW.o.mono hws);have hq:=HCl.o 1 (by decide) wr hbw
     skip
     have hbd2:=(HW.o.cell (p:=⟨s,0,none⟩) HTI.o.d.lt).trans hbd;gi_wp2_with (first | (refine ⟨trivial,?_⟩;gi_at_call 114;refine (CallsIn.inRound l (callsIn_wide.2 (HXd.o _ hn1 _ hbw))).mono ?_;rintro e w2 ⟨rfl,rfl⟩) | fail)
     refine ⟨trivial,?_⟩;refine (CallsIn.inRound l (callsIn_wide.2 (HSd.o _ _ hbw))).mono ?_;rintro e w2 ⟨hcase,hb2⟩;have HW2:=Zz (bel_step HW.o hb2);have HBw2:Hid (Below s w w2):=Zz (HB.o.trans (HW2.o.mono hws));rcases hcase with ⟨u,hQu,rfl⟩ | ⟨hbad,u,rfl⟩
     ·
      have HA2:=Zz (HAr.o.below hb2);have HQu:=Zz hQu;clear hq hbd2 hb2 hQu hbw;obtain ⟨ta,tb,tc⟩:=t;have a0:=fun o=>(HA2.o.below (bel_alloc (bR _ _) o)).cell 3 rfl
      have a1:=fun o=>(HA2.o.below (bel_alloc (bR _ _) o)).cell 4 rfl
      have a2:=fun o=>(HA2.o.below (bel_alloc (bR _ _) o)).cell 5 rfl
      have f0:=fun o=>(HA2.o.below (bel_alloc (bR _ _) o)).frozen 3
      have f1:=fun o=>(HA2.o.below (bel_alloc (bR _ _) o)).frozen 4
      have f2:=fun o=>(HA2.o.below (bel_alloc (bR _ _) o)).frozen 5
      have HWa:Hid (Below W.heap.size W (w2.alloc (.cells #[.int .i64 u.kind,.string (mkS u.text),.string (mkS u.extra)] 24))):=Zz (bel_alloc HW2.o _);have HAa:Hid (Arr (w2.alloc (.cells #[.int .i64 u.kind,.string (mkS u.text),.string (mkS u.extra)] 24)) W.heap.size ⟨ta,tb,tc⟩):=Zz (HA2.o.below (bel_alloc (bR _ _) _));gi_wp2;go_roundw
      case rel =>
       refine ⟨2,_,by first | rfl | (congr 1),by omega,Zz (HAa.o.set1 u),?_,Zz (Arr.upd (lR _) W HWa.o _ _ _ _ _ _)⟩;exact Zz ⟨fun h=>HQ.o.1 (by omega),fun h=>HQu.o,fun h=>absurd h (by omega)⟩
      case measure=>simp [intOf]
     ·
      have HNo:=Zz (HBd.o 1 (by decide) hbad);have HT2:=Zz (HTI.o.below HW2.o);have r4:=fun o=>(HT2.o.r4.alloc o).cell
      have r4f:=fun o=>(HT2.o.r4.alloc o).frozen
      have r5:=fun o=>(HT2.o.r5.alloc o).cell
      have r5f:=fun o=>(HT2.o.r5.alloc o).frozen
      clear hq hbd2 hb2 hbad hbw;gi_wp2;exact bad_out HNo.o HT2.o HW2.o HBw2.o hws HB.o
    ·
     have hbw:Below s w wr:=HB.o.trans (HW.o.mono hws);have hq:=HCl.o 2 (by decide) wr hbw
     skip
     have hbd2:=(HW.o.cell (p:=⟨s,0,none⟩) HTI.o.d.lt).trans hbd;gi_wp2_with (first | (refine ⟨trivial,?_⟩;gi_at_call 114;refine (CallsIn.inRound l (callsIn_wide.2 (HXd.o _ hn2 _ hbw))).mono ?_;rintro e w2 ⟨rfl,rfl⟩) | fail)
     refine ⟨trivial,?_⟩;refine (CallsIn.inRound l (callsIn_wide.2 (HSd.o _ _ hbw))).mono ?_;rintro e w2 ⟨hcase,hb2⟩;have HW2:=Zz (bel_step HW.o hb2);have HBw2:Hid (Below s w w2):=Zz (HB.o.trans (HW2.o.mono hws));rcases hcase with ⟨u,hQu,rfl⟩ | ⟨hbad,u,rfl⟩
     ·
      have HA2:=Zz (HAr.o.below hb2);have HQu:=Zz hQu;clear hq hbd2 hb2 hQu hbw;obtain ⟨ta,tb,tc⟩:=t;have a0:=fun o=>(HA2.o.below (bel_alloc (bR _ _) o)).cell 6 rfl
      have a1:=fun o=>(HA2.o.below (bel_alloc (bR _ _) o)).cell 7 rfl
      have a2:=fun o=>(HA2.o.below (bel_alloc (bR _ _) o)).cell 8 rfl
      have f0:=fun o=>(HA2.o.below (bel_alloc (bR _ _) o)).frozen 6
      have f1:=fun o=>(HA2.o.below (bel_alloc (bR _ _) o)).frozen 7
      have f2:=fun o=>(HA2.o.below (bel_alloc (bR _ _) o)).frozen 8
      have HWa:Hid (Below W.heap.size W (w2.alloc (.cells #[.int .i64 u.kind,.string (mkS u.text),.string (mkS u.extra)] 24))):=Zz (bel_alloc HW2.o _);have HAa:Hid (Arr (w2.alloc (.cells #[.int .i64 u.kind,.string (mkS u.text),.string (mkS u.extra)] 24)) W.heap.size ⟨ta,tb,tc⟩):=Zz (HA2.o.below (bel_alloc (bR _ _) _));gi_wp2;go_roundw
      case rel =>
       refine ⟨3,_,by first | rfl | (congr 1),by omega,Zz (HAa.o.set2 u),?_,Zz (Arr.upd (lR _) W HWa.o _ _ _ _ _ _)⟩;exact Zz ⟨fun h=>HQ.o.1 (by omega),fun h=>HQ.o.2.1 (by omega),fun h=>HQu.o⟩
      case measure=>simp [intOf]
     ·
      have HNo:=Zz (HBd.o 2 (by decide) hbad);have HT2:=Zz (HTI.o.below HW2.o);have r4:=fun o=>(HT2.o.r4.alloc o).cell
      have r4f:=fun o=>(HT2.o.r4.alloc o).frozen
      have r5:=fun o=>(HT2.o.r5.alloc o).cell
      have r5f:=fun o=>(HT2.o.r5.alloc o).frozen
      clear hq hbd2 hb2 hbad hbw;gi_wp2;exact bad_out HNo.o HT2.o HW2.o HBw2.o hws HB.o
   ·
    have hj4:j = 3:=by omega
    subst hj4;obtain ⟨⟨sk,sx,se⟩,⟨pk,px,pe⟩,⟨ok,ox,oe⟩⟩:=t;have hbl:=(HW.o.cell (p:=⟨s + 1 + 1 + 1,0,none⟩) HTI.o.l.lt).trans HTI.o.l.cell;have y0:=HAr.o.cell 0 rfl;have y1:=HAr.o.cell 1 rfl;have y2:=HAr.o.cell 2 rfl;have y3:=HAr.o.cell 3 rfl;have y4:=HAr.o.cell 4 rfl;have y5:=HAr.o.cell 5 rfl;have y6:=HAr.o.cell 6 rfl;have y7:=HAr.o.cell 7 rfl;have y8:=HAr.o.cell 8 rfl;dsimp only at y0 y1 y2 y3 y4 y5 y6 y7 y8;have hTl:T.length <= 100:=by have:=HPl.o pre T HP.o;omega
    have hbw:Below s w wr:=HB.o.trans (HW.o.mono hws);have HOw:=Zz (Kd.own_below HTI.o.own HW.o);have HFw:Hid (FitsW3 ⟨⟨sk,sx,se⟩,⟨pk,px,pe⟩,⟨ok,ox,oe⟩⟩):=Zz ⟨HFt.o _ _ (HQ.o.1 (by omega)),HFt.o _ _ (HQ.o.2.1 (by omega)),HFt.o _ _ (HQ.o.2.2 (by omega))⟩;have HBr:=Zz hbw;have hsr:s <= wr.heap.size:=by have:=hbw.size;omega
    clear hbw;obtain ⟨T5,hT5⟩:∃ T5,T5 = T ++ [(⟨⟨sk,sx,se⟩,⟨pk,px,pe⟩,⟨ok,ox,oe⟩⟩:Triple)]:=⟨_,rfl⟩;have HT5:=Zz hT5;have HP5:Hid (Pt (pre ++ [x]) T5):=Zz (by rw [hT5];exact HPs.o pre x T _ _ _ HP.o (HQ.o.1 (by omega)) (HQ.o.2.1 (by omega)) (HQ.o.2.2 (by omega)));clear hT5;gi_wp2_with (gi_at_builtin;refine own_app1_in triK (w0:=wr) s (by rfl) (.tmp 36) (.tmp 44) 22 36 zeroV 120 (by rfl) underlying22 info_tri rfl (by decide) v T ⟨⟨sk,sx,se⟩,⟨pk,px,pe⟩,⟨ok,ox,oe⟩⟩ (triL ⟨⟨sk,sx,se⟩,⟨pk,px,pe⟩,⟨ok,ox,oe⟩⟩) FF (by rfl) (by rfl) HOw.o ⟨rfl,HFw.o⟩ (bR _ _) hsr (by omega) ?_;intro v1 w5 ho5 hb5 hg5;rw [<- HT5.o] at ho5;have HO5:=Zz ho5;have HPu:=Zz (pushed (box_below HTI.o.l HW.o) (by decide) HOw.o (by omega) ho5 hg5 hb5);have hbl5:=HPu.o.1.cell;have hbf5:=HPu.o.1.frozen;clear ho5 hb5 hg5;obtain ⟨A5,c5,rfl,_,_⟩:=Kd.own_slice HO5.o)
    exact round_out HTI.o HW.o HB.o hws HPu.o HP5.o
 case done =>
  rintro D ys W hD rfl ⟨⟨v,T,hTI,hP⟩,hB⟩ hK;have hl:=hTI.l.cell;have h4:=hTI.r4.cell;have h4f:=hTI.r4.frozen;have h5:=hTI.r5.cell;have h5f:=hTI.r5.frozen;have hss:s <= W.heap.size:=by have:=hB.size;omega
  have HTI:=Zz hTI;have HBW:=Zz hB;obtain ⟨A7,c7,rfl,_,_⟩:=Kd.own_slice hTI.own;have HCn:=Zz (HC T hP A7 c7 W.drew (hB.trans ((bel_drew (bR W.heap.size W)).mono hss)) (Kd.M_bound (Kd.M_below (Kd.M_bound (Kd.own_sl (ok':=fun _=>True) hTI.own (fun _ _=>trivial) (fun _ _=>trivial))) (bel_drew (bR _ _)))));have HPt:=Zz hP;have HKD:=Zz hK;clear hTI hB hP hK HC HX HSh;gi_wp2;refine wpIn_wide.2 ?_;refine wp_nq (fun _ _ h=>h) ?_;refine HeldZ.region (fun W=>W.cell? ⟨s + 1 + 1 + 1,0,none⟩ = some (Value.slice A7 T.length c7)) 5 6 #[false,false,false,false,false,false] (by kernel_rfl) rfl rfl ?_;intro hinv;have hS:W.drew.cell? ⟨s + 1 + 1 + 1,0,none⟩ = some (Value.slice A7 T.length c7):=hl;refine HeldZ.tk 0 hinv hS ?_;clear hinv;intro hinv
  try simp only [Act.put,Zs,HeldZ.sm] at hinv |-
  refine HeldZ.tk 1 hinv hS ?_;clear hinv;intro hinv
  try simp only [Act.put,Zs,HeldZ.sm] at hinv |-
  refine HeldZ.ow 2 hinv ?_;clear hinv;intro hinv K hK;go_simp;refine HCn.o.mono ?_;rintro e w2 ⟨rfl,hb2⟩;have HB2:=Zz (bel_step (bel_drew (bR W.heap.size W)) hb2);have HT2:=Zz (HTI.o.below HB2.o);clear hS;have hS:=HT2.o.l.cell;have h4:=HT2.o.r4.cell;have h4f:=HT2.o.r4.frozen;have h5:=HT2.o.r5.cell;have h5f:=HT2.o.r5.frozen;clear hb2;refine hK _ _ (fun _=>hS) ?_;clear hK K
  try simp only [Act.put,Zs,HeldZ.sm] at hinv |-
  refine HeldZ.tk 3 hinv hS ?_;clear hinv;intro hinv
  try simp only [Act.put,Zs,HeldZ.sm] at hinv |-
  refine HeldZ.ow 4 hinv ?_;clear hinv;intro hinv K hK;go_simp;have h5':Boxed (w2.setCell ⟨s + 1,0,none⟩ (.slice A7 T.length c7)) (s + 1 + 1) 4 (.bool false):=HT2.o.r5.kept (grownBy_setCell' _ (s + 1) _) (by simp);have hl':Boxed (w2.setCell ⟨s + 1,0,none⟩ (.slice A7 T.length c7)) (s + 1 + 1 + 1) 22 (.slice A7 T.length c7):=HT2.o.l.kept (grownBy_setCell' _ (s + 1) _) (by simp;omega);have h5c:=h5'.cell;have h5cf:=h5'.frozen;clear hS;have hS:=hl'.cell;refine hK _ _ (fun _=>hS) ?_;clear hK K
  try simp only [Act.put,Zs,HeldZ.sm] at hinv |-
  refine HeldZ.oneW 5 hinv (by kernel_rfl) rfl (by rfl) ?_;clear hinv;intro _ K hK;go_simp;refine hK _ _ (fun h=>absurd rfl h) ?_;refine HeldZ.done (by kernel_rfl) ?_ _;clear hK K hS;unfold NQ;dsimp only;gi_wp2;obtain ⟨d1,d2,d3,d4,d5⟩:=done_out (r:=T.all isTriple) HT2.o HB2.o HBW.o hss (by omega) (w0:=w) HKD.o;refine ⟨by simp,.inl ⟨_,_,rfl,run_takeDeferred d1,?_⟩⟩;refine ⟨.tuple #[.slice A7 T.length c7,.bool (T.all isTriple)],?_,.inr ⟨T,A7,c7,HPt.o,rfl,d4⟩,by rw [hs];exact d5⟩;simp [results,Tryz.f70,go_sem,d2,d3]
 case stop =>
  rintro D c pre W hD hpre ⟨⟨rfl,hno,h4,h5⟩,hB⟩ hK;gi_wp2;refine ⟨by simp,.inl ⟨_,_,rfl,run_takeDeferred hK,?_⟩⟩;have c4:=cell_kept h4.cell (grownBy_putObj' _ D (.deferred none)) (fun r e=>by cases e;exact ⟨_,hK,rfl⟩);have c5:=cell_kept h5.cell (grownBy_putObj' _ D (.deferred none)) (fun r e=>by cases e;exact ⟨_,hK,rfl⟩);refine ⟨.tuple #[.slice none 0 0,.bool false],?_,.inl ⟨hno,_,rfl⟩,by rw [hs];exact hB.trans (belowK_b (w:=W0) (n₀:=s) (by omega) W D _ _ (by omega) hK rfl rfl)⟩;simp [results,Tryz.f70,go_sem,c4,c5]
end TripW
namespace FrontP
def MayF (l:List (List UInt8)):Prop:=l.length <= 300/\(∀ x ∈ l,x ≠ []/\x.length <= 250)/\l.Pairwise (· < ·)
def readN:Nat -> List UInt8 -> List UInt8 -> Option (List (List UInt8))
 | 0,_,_=>some []
 | n + 1,last,r0 :: r1 :: rest=>if r0.toNat <= last.length/\r1.toNat <= rest.length then (readN n (last.take r0.toNat ++ rest.take r1.toNat) (rest.drop r1.toNat)).map fun l=>(last.take r0.toNat ++ rest.take r1.toNat) :: l else none
 | _ + 1,_,_=>none
def countF (b:List UInt8):Nat:=(b.getD 0 0).toNat * 256 + (b.getD 1 0).toNat
def parseF (b:List UInt8):Option (List (List UInt8)):=if b.length < 2 then none else readN (countF b) [] (b.drop 2)
def ReadsF (b:List UInt8) (r:Option (List (List UInt8))):Prop:=∀ l,r = some l ↔ (MayF l/\frontB l = b)
theorem from_cons (l:List (List UInt8)) (k n:Nat):from' l k (n + 1) = piece l k ++ from' l (k + 1) n:=by
 unfold from';rw [List.range'_succ,List.flatMap_cons]
theorem read_from (l:List (List UInt8)) (hl:∀ x ∈ l,x.length < 256):∀ (n k:Nat),k + n = l.length -> ∀ last z,(k ≠ 0 -> last = l.getD (k - 1) []) -> readN n last (from' l k n ++ z) = some (l.drop k)
 | 0,k,hk,last,z,_=>by
  rw [List.drop_of_length_le (by omega)]
  try rfl
 | n + 1,k,hk,last,z,hlast=>by
  have hkl:k < l.length:=by omega
  have gl:l.getD k [] = l[k]:=by rw [List.getD_eq_getElem?_getD,Zg hkl];rfl
  have bl:=hl _ (Zm hkl);have ol:=outN_le l k;have hout:outN l k <= last.length/\last.take (outN l k) = (l[k]).take (outN l k):=by
   by_cases h4:k % 4 = 0
   ·
    have:outN l k = 0:=by unfold outN;rw [if_pos h4]
    rw [this];simp
   ·
    have hk0:k ≠ 0:=fun h=>h4 (by rw [h])
    have o1:outN l k = shared (l.getD (k - 1) []) (l.getD k []):=by unfold outN;rw [if_neg h4]
    rw [hlast hk0,o1,<- gl];exact ⟨shared_left _ _,shared_take _ _⟩
  rw [gl] at ol;have t1:(UInt8.ofNat (outN l k)).toNat = outN l k:=by simp;omega
  have t2:(UInt8.ofNat ((l[k]).length - outN l k)).toNat = (l[k]).length - outN l k:=by simp;omega
  have hp:piece l k = UInt8.ofNat (outN l k) :: UInt8.ofNat ((l[k]).length - outN l k) :: (l[k]).drop (outN l k):=by unfold piece;rw [gl]
  rw [from_cons,hp,List.cons_append,List.cons_append,List.cons_append,List.cons_append];generalize UInt8.ofNat (outN l k) = r0 at *;generalize UInt8.ofNat ((l[k]).length - outN l k) = r1 at *;rw [readN];have hd:((l[k]).drop (outN l k)).length = (l[k]).length - outN l k:=by simp
  have e1:((l[k]).drop (outN l k) ++ from' l (k + 1) n ++ z).take r1.toNat = (l[k]).drop (outN l k):=by
   rw [t2,Za,<- hd,List.take_left]
  have e2:((l[k]).drop (outN l k) ++ from' l (k + 1) n ++ z).drop r1.toNat = from' l (k + 1) n ++ z:=by
   rw [t2,Za,<- hd,List.drop_left]
  have e3:last.take r0.toNat ++ (l[k]).drop (outN l k) = l[k]:=by
   rw [t1,hout.2,List.take_append_drop]
  rw [if_pos (by rw [t1,t2];refine ⟨hout.1,?_⟩;simp only [Zl];omega),e1,e2,e3,
   read_from l hl n (k + 1) (by omega) _ z (fun _=>by rw [Nat.add_sub_cancel,gl])]
  rw [List.drop_eq_getElem_cons hkl]
  try rfl
theorem count_front {l:List (List UInt8)} (h:l.length < 65536):countF (frontB l) = l.length:=by
 unfold countF frontB headN;simp only [List.cons_append,List.getD_cons_zero,List.getD_cons_succ];simp;omega
theorem parse_front {l:List (List UInt8)} (h:MayF l):parseF (frontB l) = some l:=by
 have h300:=h.1;have h2:¬ (frontB l).length < 2:=by unfold frontB headN;simp
 rw [parseF,if_neg h2,count_front (by omega)];have he:(frontB l).drop 2 = from' l 0 l.length ++ []:=by
  unfold frontB headN from' upTo;rw [Ze,List.range_eq_range']
  try rfl
 rw [he,read_from l (fun x hx=>by have:=h.2.1 x hx;omega) l.length 0 (by omega) [] [] (fun h=>absurd rfl h)]
 try rfl
theorem readsF_none {b:List UInt8} (h:∀ l,MayF l -> frontB l ≠ b):ReadsF b none:=fun l=>⟨fun e=>(by cases e),fun e=>absurd e.2 (h l e.1)⟩
theorem readsF_parse {b:List UInt8} {l:List (List UInt8)} (h:parseF b = some l) (hm:MayF l) (hf:frontB l = b):ReadsF b (some l):=fun l'=>⟨fun e=>by
 injection e with e
 rw [<- e]
 exact ⟨hm,hf⟩,fun e=>by
 have:=parse_front e.1
 rw [e.2,h] at this
 exact this⟩
theorem readsF_not {b:List UInt8} {l:List (List UInt8)} (h:parseF b = some l) (hn:¬ (MayF l/\frontB l = b)):ReadsF b none:=readsF_none fun l' h1 h2=>by
 have:=parse_front h1
 rw [h2,h] at this
 injection this with this
 rw [this] at hn
 exact hn ⟨h1,h2⟩
theorem readsF_fail {b:List UInt8} (h:parseF b = none):ReadsF b none:=readsF_none fun l' h1 h2=>by
 have:=parse_front h1
 rw [h2,h] at this
 cases this
end FrontP
namespace PackP
open PackW
def numB (b:List UInt8) (f:Nat):Nat -> Nat
 | 0=>0
 | k + 1=>numB b f k + (bitB b (f + k)).toNat * 2 ^ k
def rowB (b:List UInt8) (n wd:Nat):List Nat:=(List.range n).map fun i=>numB b (i * wd) wd
theorem numB_lt (b:List UInt8) (f:Nat):∀ k,numB b f k < 2 ^ k
 | 0=>by simp [numB]
 | k + 1=>by
  have h1:=numB_lt b f k;have h2:(bitB b (f + k)).toNat <= 1:=by cases bitB b (f + k) <;> simp
  have h3:(bitB b (f + k)).toNat * 2 ^ k <= 1 * 2 ^ k:=Nat.mul_le_mul_right _ h2;rw [numB,Nat.pow_succ];omega
theorem rowB_len (b:List UInt8) (n wd:Nat):(rowB b n wd).length = n:=by simp [rowB]
theorem rowB_lt (b:List UInt8) (n wd:Nat):∀ x ∈ rowB b n wd,x < 2 ^ wd:=fun x hx=>by
 obtain ⟨i,_,rfl⟩:=List.mem_map.1 hx
 exact numB_lt _ _ _
theorem numB_of (b:List UInt8) (f x:Nat):∀ k,(∀ j,j < k -> bitB b (f + j) = x.testBit j) -> numB b f k = x % 2 ^ k
 | 0,_=>by simp [numB,Nat.mod_one]
 | k + 1,h=>by
  rw [numB,numB_of b f x k (fun j hj=>h j (by omega)),h k (by omega),Nat.toNat_testBit,Nat.mod_pow_succ,Nat.mul_comm (2 ^ k)]
theorem rowB_pack (l:List Nat) (wd:Nat) (h:∀ x ∈ l,x < 2 ^ wd):rowB (packB l wd) l.length wd = l:=by
 refine List.ext_getElem (rowB_len _ _ _) fun i h1 h2=>?_
 have e0:(rowB (packB l wd) l.length wd)[i] = numB (packB l wd) (i * wd) wd:=by simp [rowB]
 rw [e0];have hl:=h _ (Zm h2);by_cases hw:0 < wd
 ·
  rw [numB_of _ _ l[i] wd (fun j hj=>bit_at l wd hw i j h2 hj),Nat.mod_eq_of_lt hl]
 ·
  obtain rfl:wd = 0:=by omega
  simp at hl;simp [numB,hl]
def ReadsN (b:List UInt8) (n wd:Nat) (r:Option (List Nat)):Prop:=∀ l,r = some l ↔ (l.length = n/\(∀ x ∈ l,x < 2 ^ wd)/\packB l wd = b)
theorem readsN_row {b:List UInt8} {n wd:Nat} (h:packB (rowB b n wd) wd = b):ReadsN b n wd (some (rowB b n wd)):=fun l=>⟨fun e=>by
 injection e with e
 rw [<- e]
 exact ⟨rowB_len _ _ _,rowB_lt _ _ _,h⟩,fun ⟨h1,h2,h3⟩=>by
 rw [<- h3,<- h1,rowB_pack l wd h2]⟩
theorem readsN_not {b:List UInt8} {n wd:Nat} (h:packB (rowB b n wd) wd ≠ b):ReadsN b n wd none:=fun l=>⟨fun e=>(by cases e),fun ⟨h1,h2,h3⟩=>by
 exfalso
 apply h
 rw [<- h3,<- h1,rowB_pack l wd h2]⟩
theorem readsN_size {b:List UInt8} {n wd:Nat} (h:b.length ≠ (n * wd + 7) / 8):ReadsN b n wd none:=fun l=>⟨fun e=>(by cases e),fun ⟨h1,h2,h3⟩=>by
 exfalso
 apply h
 rw [<- h3,packB_len,h1]⟩
end PackP
namespace StoreP
open Go.Lib TermPure LinesPure Tri SortP OrdG ParseP FrontP PackW PackP BoxPure
def TermIs (s:List UInt8) (r:Option Term):Prop:=∀ t,r = some t ↔ (is t = true/\shown t = s)
theorem termIs_some {t:Term} (h:is t = true):TermIs (shown t) (some t):=fun u=>⟨fun e=>by
 injection e with e
 rw [<- e]
 exact ⟨h,rfl⟩,fun ⟨h1,h2⟩=>by rw [shown_inj h1 h h2]⟩
def IsEnc (b:List UInt8) (T:List Triple):Prop:=Valid T/\Rise T/\T.length <= 100/\encT T = b
def DecR (b:List UInt8) (r:Option (List Triple)):Prop:=∀ T,r = some T ↔ IsEnc b T
theorem DecR.unique {b:List UInt8} {r r':Option (List Triple)} (h:DecR b r) (h':DecR b r'):r = r':=by
 cases r with
 | some l=>exact ((h' l).2 ((h l).1 rfl)).symm
 | none =>
  cases r' with
  | none=>rfl
  | some l=>exact (h l).2 ((h' l).1 rfl)
def At1 (L:List (List UInt8)) (n:Nat) (t:Term):Prop:=is t = true/\1 <= n/\L[n - 1]? = some (shown t)
theorem At1.inj {L:List (List UInt8)} {n:Nat} {t u:Term} (h:At1 L n t) (h':At1 L n u):t = u:=by
 have:=h.2.2.symm.trans h'.2.2;injection this with this;exact shown_inj h.1 h'.1 this
def Makes (L:List (List UInt8)) (I:List Ids) (T:List Triple):Prop:=T.length = I.length/\∀ i (h:i < I.length) (h':i < T.length),At1 L I[i].a T[i].s/\At1 L I[i].b T[i].p/\At1 L I[i].c T[i].o
theorem Makes.inj {L:List (List UInt8)} {I:List Ids} {T U:List Triple} (h:Makes L I T) (h':Makes L I U):T = U:=by
 refine List.ext_getElem (h.1.trans h'.1.symm) fun i h1 h2=>?_
 obtain ⟨a1,a2,a3⟩:=h.2 i (by rw [<- h.1];exact h1) h1;obtain ⟨b1,b2,b3⟩:=h'.2 i (by rw [<- h.1];exact h1) h2;have e1:=a1.inj b1;have e2:=a2.inj b2;have e3:=a3.inj b3;generalize T[i] = x at *;generalize U[i] = y at *;cases x;cases y
 simp_all
theorem texts_may {T:List Triple} (h:Valid T) (hl:T.length <= 100):MayF (texts T):=by
 have h1:(texts T).length = (termsT T).length:=by unfold texts;simp
 refine ⟨by rw [h1];exact E_len h hl,fun x hx=>⟨?_,by have:=texts_short h x hx;omega⟩,texts_rise h⟩;obtain ⟨t,ht,rfl⟩:=List.mem_map.1 hx;exact shown_ne (termsT_is h t ht)
theorem idOf_in {l:List Term} {t:Term} (h:t ∈ l):1 <= idOf l t:=by
 unfold idOf;rw [if_pos h];omega
theorem at1_of {T:List Triple} (h:Valid T) {t:Term} (ht:t ∈ inTriples T):At1 (texts T) (idOf (termsT T) t) t:=by
 have hm:t ∈ termsT T:=(termsT_mem h t).2 ht;refine ⟨inTriples_is h t ht,idOf_in hm,?_⟩;unfold idOf texts;rw [if_pos hm,Nat.add_sub_cancel,List.getElem?_map,Zg (List.idxOf_lt_length_of_mem hm),List.getElem_idxOf]
 try rfl
theorem makes_of {T:List Triple} (h:Valid T):Makes (texts T) (idsT T) T:=by
 refine ⟨(ids_len T).symm,fun i h1 h2=>?_⟩;obtain ⟨m1,m2,m3⟩:=mem_three (Zm h2);have:(idsT T)[i] = idsOf (termsT T) T[i]:=by simp [idsT]
 rw [this];exact ⟨at1_of h m1,at1_of h m2,at1_of h m3⟩
def cntB (b:List UInt8):Nat:=(b.getD 0 0).toNat * 256 + (b.getD 1 0).toNat
theorem cnt_head (n:Nat) (h:n < 65536) (z:List UInt8):cntB (headN n ++ z) = n:=by
 unfold cntB headN;simp only [List.cons_append,List.getD_cons_zero,List.getD_cons_succ];simp;omega
theorem enc_secs {b:List UInt8} {T:List Triple} (h:IsEnc b T) {r:Option (List Sec)} (hr:Reads b r):r = some (secs2 T):=by
 refine (hr (secs2 T)).2 ⟨enc_may h.1 h.2.2.1,h.2.2.2⟩
theorem dec_none_box {b:List UInt8} (hr:Reads b none):DecR b none:=fun T=>⟨fun e=>(by cases e),fun h=>by cases enc_secs h hr⟩
theorem dec_none_len {b:List UInt8} {l:List Sec} (hr:Reads b (some l)) (hl:l.length ≠ 2):DecR b none:=fun T=>⟨fun e=>(by cases e),fun h=>by
 have:=enc_secs h hr
 injection this with this
 rw [this] at hl
 exact absurd rfl hl⟩
theorem enc_two {b:List UInt8} {s1 s2:Sec} (hr:Reads b (some [s1,s2])) {T:List Triple} (h:IsEnc b T):s1.2 = frontB (texts T)/\s2.2 = headN T.length ++ packB (nums (idsT T)) (wide T):=by
 have:=enc_secs h hr;injection this with this;unfold secs2 at this;injection this with e1 e2;injection e2 with e2 _;rw [e1,e2];exact ⟨rfl,rfl⟩
theorem dec_none_short {b:List UInt8} {s1 s2:Sec} (hr:Reads b (some [s1,s2])) (hs:s2.2.length < 2):DecR b none:=fun T=>⟨fun e=>(by cases e),fun h=>by
 have:=(enc_two hr h).2
 rw [this] at hs
 simp [headN] at hs
 omega⟩
theorem enc_front {b:List UInt8} {s1 s2:Sec} (hr:Reads b (some [s1,s2])) {r:Option (List (List UInt8))} (hf:ReadsF s1.2 r) {T:List Triple} (h:IsEnc b T):r = some (texts T):=
 (hf _).2 ⟨texts_may h.1 h.2.2.1,(enc_two hr h).1.symm⟩
theorem dec_none_front {b:List UInt8} {s1 s2:Sec} (hr:Reads b (some [s1,s2])) (hf:ReadsF s1.2 none):DecR b none:=fun T=>⟨fun e=>(by cases e),fun h=>by cases enc_front hr hf h⟩
theorem enc_cnt {b:List UInt8} {s1 s2:Sec} (hr:Reads b (some [s1,s2])) {T:List Triple} (h:IsEnc b T):cntB s2.2 = T.length:=by
 rw [(enc_two hr h).2];exact cnt_head _ (by have:=h.2.2.1;omega) _
theorem dec_none_cnt {b:List UInt8} {s1 s2:Sec} (hr:Reads b (some [s1,s2])) (hc:100 < cntB s2.2):DecR b none:=fun T=>⟨fun e=>(by cases e),fun h=>by
 rw [enc_cnt hr h] at hc
 have:=h.2.2.1
 omega⟩
theorem enc_nums {b:List UInt8} {s1 s2:Sec} (hr:Reads b (some [s1,s2])) {L:List (List UInt8)} (hf:ReadsF s1.2 (some L)) {r:Option (List Nat)} (hn:ReadsN (s2.2.drop 2) (3 * cntB s2.2) (Lib.bitLen L.length) r) {T:List Triple} (h:IsEnc b T) :
  r = some (nums (idsT T)):=by
 have hL:=enc_front hr hf h;injection hL with hL;have hw:Lib.bitLen L.length = wide T:=by rw [hL];unfold wide texts;rw [List.length_map]
 have hd:s2.2.drop 2 = packB (nums (idsT T)) (wide T):=by rw [(enc_two hr h).2];rfl
 rw [hw,hd,enc_cnt hr h] at hn;exact (hn _).2 ⟨by rw [nums_len,ids_len],fun x hx=>(nums_small h.1 h.2.2.1 x hx).2,rfl⟩
theorem dec_none_nums {b:List UInt8} {s1 s2:Sec} (hr:Reads b (some [s1,s2])) {L:List (List UInt8)} (hf:ReadsF s1.2 (some L)) (hn:ReadsN (s2.2.drop 2) (3 * cntB s2.2) (Lib.bitLen L.length) none):DecR b none:=fun T=>⟨fun e=>(by cases e),fun h=>by cases enc_nums hr hf hn h⟩
theorem dec_none_terms {b:List UInt8} {s1 s2:Sec} (hr:Reads b (some [s1,s2])) {L:List (List UInt8)} (hf:ReadsF s1.2 (some L)) {x:List UInt8} (hx:x ∈ L) (ht:TermIs x none):DecR b none:=fun T=>⟨fun e=>(by cases e),fun h=>by
 have hL:=enc_front hr hf h
 injection hL with hL
 rw [hL] at hx
 obtain ⟨t,hm,rfl⟩:=List.mem_map.1 hx
 have:=(ht t).2 ⟨termsT_is h.1 t hm,rfl⟩
 cases this⟩
theorem enc_makes {b:List UInt8} {s1 s2:Sec} (hr:Reads b (some [s1,s2])) {L:List (List UInt8)} (hf:ReadsF s1.2 (some L)) {I:List Ids} (hn:ReadsN (s2.2.drop 2) (3 * cntB s2.2) (Lib.bitLen L.length) (some (nums I))) {T:List Triple} (h:IsEnc b T):Makes L I T:=by
 have hL:=enc_front hr hf h;injection hL with hL;have hI:=enc_nums hr hf hn h;injection hI with hI;rw [hL,nums_inj hI];exact makes_of h.1
theorem dec_none_makes {b:List UInt8} {s1 s2:Sec} (hr:Reads b (some [s1,s2])) {L:List (List UInt8)} (hf:ReadsF s1.2 (some L)) {I:List Ids} (hn:ReadsN (s2.2.drop 2) (3 * cntB s2.2) (Lib.bitLen L.length) (some (nums I))) (hm:∀ T,Valid T -> ¬ Makes L I T):DecR b none:=fun T=>⟨fun e=>(by cases e),fun h=>absurd (enc_makes hr hf hn h) (hm T h.1)⟩
theorem sort_same {T:List Triple} (h:Valid T) (hr:Rise T):sortT T = T:=(sortT_eq h hr (fun _=>Iff.rfl)).symm
theorem dec_none_eq {b:List UInt8} {s1 s2:Sec} (hr:Reads b (some [s1,s2])) {L:List (List UInt8)} (hf:ReadsF s1.2 (some L)) {I:List Ids} (hn:ReadsN (s2.2.drop 2) (3 * cntB s2.2) (Lib.bitLen L.length) (some (nums I))) {T:List Triple} (hm:Makes L I T) (he:encT (sortT T) ≠ b):DecR b none:=fun U=>⟨fun e=>(by cases e),fun h=>by
 have:=(enc_makes hr hf hn h).inj hm
 rw [<- this,sort_same h.1 h.2.1] at he
 exact absurd h.2.2.2 he⟩
theorem dec_some {b:List UInt8} {T:List Triple} (hv:Valid T) (hl:T.length <= 100) (he:encT (sortT T) = b):DecR b (some (sortT T)):=fun U=>⟨fun e=>by
 injection e with e
 rw [<- e]
 have hs:Valid (sortT T):=fun x hx=>hv x ((sortT_mem hv x).1 hx)
 exact ⟨hs,sortT_rise hv,Zh (ParseOk.sortT_len T) hl,he⟩,fun h=>by
 have h1:IsEnc b (sortT T):=⟨fun x hx=>hv x ((sortT_mem hv x).1 hx),sortT_rise hv,Zh (ParseOk.sortT_len T) hl,he⟩
 rw [encT_inj h1.1 h.1 h1.2.2.1 h.2.2.1 (h1.2.2.2.trans h.2.2.2.symm)]⟩
def threes:List Nat -> List Ids
 | a :: b :: c :: l=>⟨a,b,c⟩ :: threes l
 | _=>[]
theorem nums_threes:∀ (k:Nat) (l:List Nat),l.length = 3 * k -> nums (threes l) = l/\(threes l).length = k
 | 0,l,h=>by
  have:l = []:=Zn (by omega)
  subst this
  exact ⟨rfl,rfl⟩
 | k + 1,l,h=>by
  match l,h with
  | a :: b :: c :: l,h =>
   have:=nums_threes k l (by simp at h;omega)
   refine ⟨?_,by rw [threes,Zc,this.2]⟩
   rw [threes]
   show a :: b :: c :: nums (threes l) = _
   rw [this.1]
  | [],h=>simp at h
  | [a],h=>simp at h;omega
  | [a,b],h=>simp at h;omega
end StoreP
namespace Round
open Go.Lib TermPure LinesPure
theorem run_end (dash:Bool):∀ (s:List UInt8),(∀ b ∈ s,inRun dash b = true) -> run dash s = (s,[])
 | [],_=>rfl
 | b :: s,h=>by
  have h1:=h b (by simp)
  have h2:=run_end dash s (fun c hc=>h c (by simp [hc]))
  unfold run at h2 |-
  rw [List.takeWhile_cons,List.dropWhile_cons,h1]
  simp only [if_true]
  injection h2 with e1 e2
  rw [e1,e2]
theorem literal_end {s x:List UInt8} {k:Int} {e tail:List UInt8} (hu:∀ r,up 34 true true (x ++ 34 :: r) = some (s,r))
  (h:(k = 3/\e = []/\tail = []) \/ (k = 4/\isLang e = true/\tail = 64 :: e) \/ (k = 5/\isIRI e = true/\tail = 94 :: 94 :: 60 :: (e ++ [62]))) :
  LinesPure.rawTerm true (34 :: (x ++ 34 :: tail)) = some (⟨k,s,e⟩,[]):=by
 rw [rawTerm,if_neg (by simp [List.isPrefixOf]),if_neg (by simp [List.isPrefixOf]),if_pos (by simp [List.isPrefixOf])];have e0:((34 :: (x ++ 34 :: tail):List UInt8).drop 1) = x ++ 34 :: tail:=by simp
 rw [e0,literal,hu];dsimp only;rcases h with ⟨rfl,rfl,rfl⟩ | ⟨rfl,he,rfl⟩ | ⟨rfl,he,rfl⟩
 ·
  rfl
 ·
  rw [show [64].isPrefixOf (64 :: e:List UInt8) = true from by simp [List.isPrefixOf],if_pos rfl];have hl:∀ c ∈ e,c = 45 \/ (97 <= c.toNat/\c.toNat <= 122) \/ (48 <= c.toNat/\c.toNat <= 57):=lang_bytes e false 0 (by unfold isLang at he;simp only [Bool.and_eq_true] at he;exact he.1);have e1:((64 :: e:List UInt8).drop 1) = e:=rfl;rw [e1,run_end true e ?_]
  ·
   dsimp only;rw [lower_same e ?_];intro c hc h;rcases hl c hc with rfl | h' | h'
   ·
    exact absurd h (by decide)
   ·
    omega
   ·
    omega
  ·
   intro c hc;unfold inRun alnum;rcases hl c hc with rfl | h' | h'
   ·
    rfl
   ·
    simp [h']
   ·
    simp [h']
 ·
  rw [show [64].isPrefixOf (94 :: 94 :: 60 :: (e ++ [62]):List UInt8) = false from by simp [List.isPrefixOf],if_neg (by simp),show [94,94].isPrefixOf (94 :: 94 :: 60 :: (e ++ [62]):List UInt8) = true from by simp [List.isPrefixOf],if_pos rfl];have e1:((94 :: 94 :: 60 :: (e ++ [62]):List UInt8).drop 2) = 60 :: (e ++ [62]):=rfl;have e2:((94 :: 94 :: 60 :: (e ++ [62]):List UInt8).drop 3) = e ++ 62 :: []:=by simp
  rw [e1,e2,show [60].isPrefixOf (60 :: (e ++ [62]):List UInt8) = true from by simp [List.isPrefixOf],if_pos rfl,up_iri he]
  try rfl
theorem shown_end {t:Term} (h:is t = true):LinesPure.rawTerm true (shown t) = some (t,[]):=by
 obtain ⟨k,s,e⟩:=t;have hc:=is_cases h;dsimp only at hc;rcases hc with ⟨rfl,h1,rfl⟩ | ⟨rfl,h1,rfl⟩ | ⟨rfl,h1,rfl⟩ | ⟨rfl,h1,h2⟩ | ⟨rfl,h1,h2⟩
 ·
  show LinesPure.rawTerm true (60 :: (s ++ [62])) = _;rw [rawTerm,if_pos (by simp [List.isPrefixOf])];have e0:((60 :: (s ++ [62]):List UInt8).drop 1) = s ++ 62 :: []:=by simp
  rw [e0,up_iri h1]
  try rfl
 ·
  show LinesPure.rawTerm true (95 :: 58 :: s) = _;rw [rawTerm,if_neg (by simp [List.isPrefixOf]),if_pos (by simp [List.isPrefixOf])];have e0:((95 :: 58 :: s:List UInt8).drop 2) = s:=rfl;rw [e0,run_end false s (fun c hc=>by unfold inRun;rw [label_bytes h1 c hc];rfl)]
 ·
  exact literal_end (tail:=[]) (fun r=>up_flat true r s) (.inl ⟨rfl,rfl,rfl⟩)
 ·
  have:=literal_end (tail:=64 :: e) (fun r=>up_flat true r s) (.inr (.inl ⟨rfl,h2,rfl⟩));rw [<- this];congr 1;show (34 :: (s.flatMap escB ++ [34]) ++ 64 :: e) = _;simp
 ·
  have:=literal_end (tail:=94 :: 94 :: 60 :: (e ++ [62])) (fun r=>up_flat true r s) (.inr (.inr ⟨rfl,h2,rfl⟩));rw [<- this];congr 1;show (34 :: (s.flatMap escB ++ [34]) ++ 94 :: 94 :: 60 :: (e ++ [62])) = _;simp
theorem term_end {t:Term} (h:is t = true):LinesPure.term true (shown t) = some (t,[]):=by
 rw [term,shown_end h];dsimp only;rw [if_pos h]
end Round
namespace RefTerm
open Go.RowKit Go.Lib B Rd TermPure LinesPure Tri Env Tc Ref5 StoreP
theorem none_of {s:List UInt8} (h:∀ t,is t = true -> shown t = s -> False):TermIs s none:=fun t=>⟨fun e=>(by cases e),fun ⟨h1,h2⟩=>(h t h1 h2).elim⟩
theorem next_none {s:List UInt8} {t:Term} (h:Ref5.Next true (some s) t none):TermIs s none:=none_of fun u h1 h2=>by
 subst h2
 unfold Ref5.Next at h
 dsimp only at h
 rw [Round.term_end h1] at h
 cases h.2
theorem next_some {s q:List UInt8} {t:Term} (h:Ref5.Next true (some s) t (some q)):is t = true/\∀ u,is u = true -> shown u = s -> t = u/\q = []:=by
 unfold Ref5.Next at h;dsimp only at h;cases ht:term true s with
 | none=>rw [ht] at h;cases h
 | some p =>
  obtain ⟨t0,q0⟩:=p;rw [ht] at h;obtain ⟨rfl,hq⟩:=h;injection hq with hq;have hi:is t = true:=by
   unfold term at ht
   split at ht
   ·
    cases ht
   ·
    split at ht
    ·
     rename_i hx
     injection ht with ht;injection ht with h1 h2;rw [<- h1];exact hx
    ·
     cases ht
  refine ⟨hi,fun u h1 h2=>?_⟩;subst h2;rw [Round.term_end h1] at ht;injection ht with ht;injection ht with e1 e2;subst e1;subst e2;exact ⟨rfl,hq⟩
def TmPost (s:List UInt8) (w:World) (e:Ending) (w':World):Prop:=
 (∃ r,TermIs s r/\match r with
  | some t=>e = .returned (.tuple #[Ref5.termV t,.bool true])
  | none=>e = .returned (.tuple #[Ref5.termV Tc.zeroT,.bool false]))/\Below w.heap.size w w'
theorem refterm_calls (s:List UInt8) (hs:s.length <= 1000) (w:World) (he:Env w) :
  Calls Tryz.prog 122 #[.string (mkS s)] w (TmPost s w):=by
 have hlow:=he.low;have zs:=mkS_toList s;have HB0:=Zz (bel_alloc (bR w.heap.size w) (.cells #[.int .i64 0,.string (mkS []),.string (mkS [])] 24));have HT0:=Zz (TC.new w Tc.zeroT);have HE0:=Zz (he.below HB0.o);clear he;go_enter func122,ntmps122;go_wp2_with fail;refine (valid_calls s (by omega) _ HE0.o).mono ?_;rintro e w1 ⟨rfl,hb1⟩;have HB1:=Zz (bel_step HB0.o hb1);have HT1:=Zz (HT0.o.below hb1);have HE1:=Zz (HE0.o.below hb1);have hz1:w.heap.size < w1.heap.size:=HT1.o.lt;have hrb:lowB <= w1.heap.size:=by omega
 have hn2:¬ w.heap.size = w1.heap.size:=by omega
 clear hb1;cases hv:validD s with
 | false =>
  have HI:Hid (TermIs s none):=Zz (none_of fun u h1 h2=>by
   have:=(Round.shown_spells h1).valid;rw [h2,hv] at this;cases this)
  obtain ⟨p0,p1,p2,f0,f1,f2⟩:=HT1.o;simp only [Nat.zero_add,Tc.zeroT] at p0 p1 p2 f0 f1 f2;clear hv;go_wp2;refine bodyPost_ret (v:=.tuple #[Ref5.termV Tc.zeroT,.bool false]) (by simp [results,Tryz.results122,go_sem,p0,p1,p2,Ref5.termV,Tc.zeroT,mkS_nil]) rfl ?_;exact ⟨⟨none,HI.o,rfl⟩,bel_set (bel_set (bel_set HB1.o (lR _) _) (lR _) _) (lR _) _⟩
 | true =>
  have HS1:=Zz (At.new w1 s false 200 (by omega));have HB2:=Zz (bel_alloc HB1.o (.cells #[.string (mkS s),.bool false] 200));have HT2:=Zz (HT1.o.alloc (.cells #[.string (mkS s),.bool false] 200));have HE2:=Zz (HE1.o.below (bel_alloc (bR _ _) (.cells #[.string (mkS s),.bool false] 200)));have HTm:=Zz (term_any_calls w1.heap.size (some s) _ HE2.o hrb HS1.o);clear hv;go_wp2_with fail;refine HTm.o.mono ?_;rintro e w2 ⟨t,st',⟨rfl,hft⟩,hst,hnx⟩;have HAt:=hst.at';have HT3':=HT2.o.grown hst.grown hn2;have HBg:Below w.heap.size w w2:=HB2.o.grown hst.grown HB2.o.size (fun k hk=>by cases hk;omega);have hz2:w1.heap.size < w2.heap.size:=HAt.lt;have HB3:=Zz (bel_alloc HBg (.cells #[.int .i64 t.kind,.string (mkS t.text),.string (mkS t.extra)] 24));have HT4:=HT3'.alloc (.cells #[.int .i64 t.kind,.string (mkS t.text),.string (mkS t.extra)] 24);have HN4:=TC.new w2 t;have hb24:=bel_alloc (bR w2.heap.size w2) (.cells #[.int .i64 t.kind,.string (mkS t.text),.string (mkS t.extra)] 24);have a0:=(hb24.cell (p:=⟨w1.heap.size,0,none⟩) hz2).trans HAt.c0;have a1:=(hb24.cell (p:=⟨w1.heap.size,1,none⟩) hz2).trans HAt.c1;obtain ⟨w3,hw3⟩:∃ w3,w3 = w2.alloc (.cells #[.int .i64 t.kind,.string (mkS t.text),.string (mkS t.extra)] 24):=⟨_,rfl⟩;rw [<- hw3] at HB3 HT4 HN4 a0 a1;have HWX:=Zz hw3.symm;have HT4h:=Zz HT4;have HN4h:=Zz HN4;have hn3:¬ w.heap.size = w2.heap.size:=by omega
  clear hst HAt HT3' HBg hb24 hw3 HTm HS1 HT4 HN4;cases st' with
  | none =>
   have HI:=Zz (next_none hnx);obtain ⟨p0,p1,p2,f0,f1,f2⟩:=HT4h.o;simp only [Nat.zero_add,Tc.zeroT] at p0 p1 p2 f0 f1 f2;obtain ⟨tk,tx,te⟩:=t;dsimp only [Option.isNone,Option.getD] at a0 a1 HWX;unfold Ref5.termV;dsimp only;clear hnx hft;go_upto_region 5 with fail
   rw [HWX.o];go_wp2;refine bodyPost_ret (v:=.tuple #[Ref5.termV Tc.zeroT,.bool false]) (by simp [results,Tryz.results122,go_sem,p0,p1,p2,Ref5.termV,Tc.zeroT,mkS_nil]) rfl ?_;exact ⟨⟨none,HI.o,rfl⟩,bel_set (bel_set (bel_set HB3.o (lR _) _) (lR _) _) (lR _) _⟩
  | some q =>
   have hq2:=next_some hnx;have HQ:=Zz hq2;have hsm:=ParseP.is_small hq2.1;have HSh:=Zz (fun W=>RefCmp.show4_calls t (by unfold Cmp.SmallM;omega) W);have tq:=mkS_toList q;have zq:=mkS_size q;dsimp only [Option.isNone,Option.getD] at a0 a1;clear hnx hft hq2;obtain ⟨S1,hS1⟩:∃ S1,S1 = shown t:=⟨_,rfl⟩;have HS1e:=Zz hS1;rw [<- hS1] at HSh;clear hS1 hsm;by_cases hq0:q = []
   case neg =>
    have HI:Hid (TermIs s none):=Zz (none_of fun u h1 h2=>hq0 (HQ.o.2 u h1 h2).2);have q1:q.isEmpty = false:=by cases q with
     | nil=>exact absurd rfl hq0
     | cons a x=>rfl
    have q2:(q == []) = false:=by simpa using hq0
    have q3:(q != []) = true:=by simpa using hq0
    obtain ⟨p0,p1,p2,f0,f1,f2⟩:=HT4h.o;simp only [Nat.zero_add,Tc.zeroT] at p0 p1 p2 f0 f1 f2;obtain ⟨tk,tx,te⟩:=t;dsimp only at HWX;unfold Ref5.termV;dsimp only;clear hq0;go_upto_region 5 with fail
    rw [HWX.o];go_wp2;refine bodyPost_ret (v:=.tuple #[Ref5.termV Tc.zeroT,.bool false]) (by simp [results,Tryz.results122,go_sem,p0,p1,p2,Ref5.termV,Tc.zeroT,mkS_nil]) rfl ?_;exact ⟨⟨none,HI.o,rfl⟩,bel_set (bel_set (bel_set HB3.o (lR _) _) (lR _) _) (lR _) _⟩
   have q1:q.isEmpty = true:=by rw [hq0];rfl
   have q2:(q == []) = true:=by rw [hq0];rfl
   have q3:(q != []) = false:=by rw [hq0];rfl
   have ql:q.length = 0:=by rw [hq0];rfl
   obtain ⟨n0,n1,n2,_,_,_⟩:=HN4h.o;simp only [Nat.zero_add] at n0 n1 n2;obtain ⟨tk,tx,te⟩:=t;dsimp only at HWX n0 n1 n2;unfold Ref5.termV at HSh |-;dsimp only at HSh |-;clear hq0;go_upto_region 5 with fail
   rw [HWX.o];go_wp2_with fail;refine (HSh.o _).mono ?_;rintro e w4 ⟨rfl,hb⟩;have HB4:=Zz (bel_step HB3.o hb);have HT5:=HT4h.o.below hb;have HN5:=HN4h.o.below hb;obtain ⟨p0,p1,p2,f0,f1,f2⟩:=HT5;obtain ⟨m0,m1,m2,_,_,_⟩:=HN5;simp only [Nat.zero_add,Tc.zeroT] at p0 p1 p2 f0 f1 f2 m1 m2;dsimp only at m0 m1 m2;have tS:=mkS_toList S1;clear hb HSh n0 n1 n2 a0 a1;by_cases hS:S1 = s
   ·
    have h4:(S1 == s) = true:=by rw [hS];simp
    have h5:(S1 != s) = false:=by rw [hS];simp
    have HI:Hid (TermIs s (some ⟨tk,tx,te⟩)):=Zz (by rw [<- hS,HS1e.o];exact termIs_some HQ.o.1);clear hS;go_wp2;refine bodyPost_ret (v:=.tuple #[Ref5.termV ⟨tk,tx,te⟩,.bool true]) (by simp [results,Tryz.results122,go_sem,p0,p1,p2,Ref5.termV,Tc.zeroT,mkS_nil]) rfl ?_;exact ⟨⟨some ⟨tk,tx,te⟩,HI.o,rfl⟩,bel_set (bel_set (bel_set HB4.o (lR _) _) (lR _) _) (lR _) _⟩
   ·
    have h4:(S1 == s) = false:=by simp [hS]
    have h5:(S1 != s) = true:=by simp [hS]
    have HI:Hid (TermIs s none):=Zz (none_of fun u h1 h2=>hS (by rw [HS1e.o,(HQ.o.2 u h1 h2).1];exact h2));clear hS;go_wp2;refine bodyPost_ret (v:=.tuple #[Ref5.termV Tc.zeroT,.bool false]) (by simp [results,Tryz.results122,go_sem,p0,p1,p2,Ref5.termV,Tc.zeroT,mkS_nil]) rfl ?_;exact ⟨⟨none,HI.o,rfl⟩,bel_set (bel_set (bel_set HB4.o (lR _) _) (lR _) _) (lR _) _⟩
end RefTerm
namespace RefTerm
open Go.RowKit Go.Lib B Rd TermPure LinesPure Tri Env Tc Ref5 StoreP StoreW Clones FrontW
def TmsPost (L:List (List UInt8)) (w:World) (e:Ending) (w':World):Prop:=
 (((∃ x ∈ L,TermIs x none)/\e = .returned (.tuple #[.slice none 0 0,.bool false])) \/
  ∃ E A c,L = E.map shown/\(∀ t ∈ E,is t = true)/\e = .returned (.tuple #[.slice A E.length c,.bool true])/\termK.sl.M w' (fun _=>True) E [.slice A E.length c])/\Below w.heap.size w w'
theorem refterms_calls (L:List (List UInt8)) (hl:L.length <= 300) (hs:∀ x ∈ L,x.length <= 1000) (A:Option Addr) (c:Nat) (w:World) (he:Env w) (HL:strK.sl.M w (fun _=>True) (strs L) [.slice A L.length c]) :
  Calls Tryz.prog 75 #[.slice A L.length c] w (TmsPost L w):=by
 have HRow:=Zz (fun hp=>str_cells HL hp);have HS:=Zz hs;have HE:=Zz he;have HO0:Hid (termK.own 24 w w.heap.size TT (.slice none 0 0) ([]:List Term)):=Zz (Kd.own_nil _ _ _ _ _);clear hs he HL;go_enter func75,ntmps75;go_wp2;go_loopw [4,5] (fun v4 vk wr=>∃ (k:Nat) (E:List Term),vk = .int .i64 k/\k <= L.length/\Hid (L.take k = E.map shown)/\Hid (∀ t ∈ E,is t = true)/\Hid (termK.own 24 wr w.heap.size TT v4 E)/\Hid (Below w.heap.size w wr)) (fun _ vk _=>L.length - (intOf vk).toNat)
 case atStart=>exact ⟨0,[],rfl,by omega,Zz (by simp),Zz (fun t h=>by cases h),HO0,Zz (bR _ _)⟩
 case round =>
  obtain ⟨k,E,rfl,hk,HT,HI,HO,HB⟩:=hrel;clear HO0;have hel:E.length <= 300:=by
   have h:=congrArg List.length HT.o;simp only [Zi,List.length_map] at h;omega
  obtain ⟨A4,c4,rfl,_,_⟩:=Kd.own_slice HO.o;by_cases hlt:k < L.length
  ·
   have hd2:decide (k < L.length) = true:=dT hlt;have ik:(k:Int) < (L.length:Int):=by omega
   obtain ⟨b,off,rfl,_,hbs,hcells⟩:=HRow.o (by omega);have hcx:=(HB.o.cell (p:=⟨b,off + k,none⟩) hbs).trans (hcells k hlt);obtain ⟨x,hx⟩:∃ x,x = L[k]:=⟨_,rfl⟩;rw [<- hx] at hcx;have hxm:x ∈ L:=by rw [hx];exact Zm hlt
   have HXm:=Zz hxm;have hxs:=HS.o x hxm;have HSn:Hid (∀ t,shown t = x -> L.take (k + 1) = (E ++ [t]).map shown):=Zz (fun t ht=>by
    rw [Zt hlt,HT.o,List.map_append,<- hx,<- ht];rfl)
   have HTm:=Zz (refterm_calls x hxs wr (HE.o.below HB.o));clear hcells hx hxm hxs;go_wp2_with fail;refine HTm.o.mono ?_;rintro e w2 ⟨⟨r,hr,he2⟩,hb⟩;have HBa:=Zz (bel_step HB.o hb);have HOa:=Zz (Kd.own_below HO.o hb);clear HTm HB HO;cases r with
   | none =>
    obtain rfl:=he2;have HF:Hid (∃ x ∈ L,TermIs x none):=Zz ⟨x,HXm.o,hr⟩;have HBb:=Zz (bel_alloc HBa.o (.cells #[.int .i64 Tc.zeroT.kind,.string (mkS Tc.zeroT.text),.string (mkS Tc.zeroT.extra)] 24));unfold Ref5.termV;dsimp only [Tc.zeroT] at HBb |-;clear hr hb;go_wp2;go_ret2;exact ⟨.inl ⟨HF.o,rfl⟩,HBb.o⟩
   | some t =>
    obtain rfl:=he2;have hti:=(hr t).1 rfl;have hsm:=ParseP.is_small hti.1;have HI2:Hid (∀ u ∈ E ++ [t],is u = true):=Zz (fun u hu=>by
     rcases Zk.1 hu with h | h
     ·
      exact HI.o u h
     ·
      simp at h;subst h;exact hti.1)
    have HT2:=Zz (HSn.o t hti.2);have hfw:FitsW t:=by unfold FitsW;omega
    have HFw:=Zz hfw;have HBb:=Zz (bel_alloc HBa.o (.cells #[.int .i64 t.kind,.string (mkS t.text),.string (mkS t.extra)] 24));have HOb:=Zz (Kd.own_alloc HOa.o (.cells #[.int .i64 t.kind,.string (mkS t.text),.string (mkS t.extra)] 24));have HN:=TC.new w2 t;obtain ⟨n0,n1,n2,_,_,_⟩:=HN;simp only [Nat.zero_add] at n1 n2;unfold Ref5.termV;dsimp only;obtain ⟨w3,hw3⟩:∃ w3,w3 = w2.alloc (.cells #[.int .i64 t.kind,.string (mkS t.text),.string (mkS t.extra)] 24):=⟨_,rfl⟩;rw [<- hw3] at HBb HOb n0 n1 n2;have HWX:=Zz hw3.symm;clear hr hb hti hsm hfw hw3 HSn;obtain ⟨tk,tx,te⟩:=t;dsimp only at HWX n0 n1 n2;dsimp only;go_upto_region 8 with fail
    rw [HWX.o];go_wp2_with (at_builtin;refine Kd.own_app1 termK (w0:=w) w.heap.size rfl (.tmp 24) (.tmp 26) 31 24 zero_term 40 rfl underlying31 info_term rfl (by decide) _ E ⟨tk,tx,te⟩ [.int .i64 tk,.string (mkS tx),.string (mkS te)] TT (by rfl) (by rfl) HOb.o ⟨rfl,HFw.o⟩ HBb.o HBb.o.size (by omega) ?_;intro v1 w5 ho1 hb1 hg1 hv1;clear hg1 hv1;have HO5:=Zz ho1;have HB5:=Zz hb1;clear ho1 hb1;obtain ⟨A5,c5,rfl,_,_⟩:=Kd.own_slice HO5.o)
    go_wp2;go_roundw
    case rel=>exact ⟨k + 1,E ++ [⟨tk,tx,te⟩],by go_num,by omega,HT2,HI2,Zz (by have h:=HO5.o;rw [Zl] at h;exact h),HB5⟩
    case measure=>simp [intOf];omega
  ·
   have hd2:decide (k < L.length) = false:=dF hlt;have HTe:Hid (L = E.map shown):=Zz (by rw [<- HT.o,List.take_of_length_le (by omega)]);have HM:=Zz (Kd.own_sl (ok:=TT) (ok':=fun _=>True) HO.o (fun _ _=>trivial) (fun _ _=>trivial));go_wp2;go_ret2;exact ⟨.inr ⟨E,A4,c4,HTe.o,HI.o,rfl,HM.o⟩,HB.o⟩
end RefTerm
namespace RefTrip
open Go.RowKit Go.Lib B Rd TermPure LinesPure Tri SortP OrdG StoreP StoreW Clones SortW
theorem nums_at:∀ (I:List Ids) (i:Nat) (h:i < I.length),(nums I)[3 * i]? = some I[i].a/\(nums I)[3 * i + 1]? = some I[i].b/\(nums I)[3 * i + 2]? = some I[i].c
 | x :: I,0,_=>⟨rfl,rfl,rfl⟩
 | x :: I,i + 1,h=>by
  have h':i < I.length:=by simpa using h
  obtain ⟨h1,h2,h3⟩:=nums_at I i h';have e:nums (x :: I) = x.a :: x.b :: x.c :: nums I:=rfl;rw [e,show 3 * (i + 1) = 3 * i + 1 + 1 + 1 by omega,show 3 * i + 1 + 1 + 1 + 1 = (3 * i + 1) + 1 + 1 + 1 by omega,show 3 * i + 1 + 1 + 1 + 2 = (3 * i + 2) + 1 + 1 + 1 by omega];simp only [List.getElem?_cons_succ,List.getElem_cons_succ];exact ⟨h1,h2,h3⟩
 | [],i,h=>absurd h (by simp)
theorem makes_bad {E:List Term} {I:List Ids} {i:Nat} (h:i < I.length) {n:Nat} (hn:n = I[i].a \/ n = I[i].b \/ n = I[i].c) (hb:n < 1 \/ E.length < n) (T:List Triple):¬ Makes (E.map shown) I T:=fun hm=>by
 obtain ⟨a1,a2,a3⟩:=hm.2 i h (by rw [hm.1];exact h)
 have key:∀ m t,At1 (E.map shown) m t -> 1 <= m/\m <= E.length:=fun m t ha=>by
  refine ⟨ha.2.1,?_⟩
  have:=(List.getElem?_eq_some_iff.1 ha.2.2).1
  rw [List.length_map] at this
  have:=ha.2.1
  omega
 rcases hn with rfl | rfl | rfl
 ·
  have:=key _ _ a1;omega
 ·
  have:=key _ _ a2;omega
 ·
  have:=key _ _ a3;omega
theorem at1_get {E:List Term} (hE:∀ t ∈ E,is t = true) {n:Nat} (h1:1 <= n) (h:n - 1 < E.length):At1 (E.map shown) n E[n - 1]:=
 ⟨hE _ (Zm h),h1,by rw [List.getElem?_map,Zg h];rfl⟩
def Some1 (E:List Term) (I:List Ids) (k:Nat) (T:List Triple):Prop:=T.length = k/\Valid T/\∀ i (h:i < I.length) (h':i < T.length),At1 (E.map shown) I[i].a T[i].s/\At1 (E.map shown) I[i].b T[i].p/\At1 (E.map shown) I[i].c T[i].o
theorem Some1.snoc {E:List Term} {I:List Ids} {k:Nat} {T:List Triple} (h:Some1 E I k T) (hk:k < I.length) {t:Triple} (ht:isTriple t = true) (h1:At1 (E.map shown) I[k].a t.s) (h2:At1 (E.map shown) I[k].b t.p) (h3:At1 (E.map shown) I[k].c t.o):Some1 E I (k + 1) (T ++ [t]):=by
 refine ⟨by rw [Zl,h.1];rfl,fun x hx=>?_,fun i hi hi'=>?_⟩
 ·
  rcases Zk.1 hx with hx | hx
  ·
   exact h.2.1 x hx
  ·
   simp at hx;subst hx;exact ht
 ·
  by_cases hik:i < T.length
  ·
   rw [List.getElem_append_left hik];exact h.2.2 i hi hik
  ·
   have e:i = k:=by rw [Zl,h.1] at hi';have:=h.1;simp at hi';omega
   subst e;have e2:(T ++ [t])[i] = t:=by
    rw [List.getElem_append_right (by omega)];simp [h.1]
   rw [e2];exact ⟨h1,h2,h3⟩
theorem makes_not {E:List Term} {I:List Ids} {k:Nat} (hk:k < I.length) {t:Triple} (ht:isTriple t = false) (h1:At1 (E.map shown) I[k].a t.s) (h2:At1 (E.map shown) I[k].b t.p) (h3:At1 (E.map shown) I[k].c t.o) (T:List Triple) (hv:Valid T):¬ Makes (E.map shown) I T:=fun hm=>by
 have hkT:k < T.length:=by rw [hm.1];exact hk
 obtain ⟨a1,a2,a3⟩:=hm.2 k hk hkT;have e1:=a1.inj h1;have e2:=a2.inj h2;have e3:=a3.inj h3;have hx:=hv _ (Zm hkT);have:T[k] = t:=by
  generalize T[k] = x at *;cases x;cases t
  simp_all
 rw [this,ht] at hx;cases hx
theorem Some1.makes {E:List Term} {I:List Ids} {T:List Triple} (h:Some1 E I I.length T):Makes (E.map shown) I T:=⟨h.1,h.2.2⟩
def TrPost (I:List Ids) (E:List Term) (w:World) (e:Ending) (w':World):Prop:=
 (((∀ T,Valid T -> ¬ Makes (E.map shown) I T)/\e = .returned (.tuple #[.slice none 0 0,.bool false])) \/
  ∃ T A c,Makes (E.map shown) I T/\Valid T/\e = .returned (.tuple #[.slice A T.length c,.bool true])/\triK.sl.M w' (fun _=>True) T [.slice A T.length c])/\Below w.heap.size w w'
theorem reftrip_calls (I:List Ids) (E:List Term) (hI:I.length <= 100) (hE:∀ t ∈ E,is t = true) (hEl:E.length <= 300) (A B:Option Addr) (c d:Nat) (w:World) (he:Env.Env w) (HL:intK.sl.M w (fun _=>True) (natZ (nums I)) [.slice A (nums I).length c]) (HM:termK.sl.M w (fun _=>True) E [.slice B E.length d]) :
  Calls Tryz.prog 78 #[.slice A (nums I).length c,.slice B E.length d] w (TrPost I E w):=by
 have HRow:=Zz (fun hp=>PackW.int_cells HL hp);have HTe:=Zz (fun hp=>Search.term_cells HM hp);have HIs:=Zz hE;have HEn:=Zz he;obtain ⟨N,hN⟩:∃ N,N = (nums I).length:=⟨_,rfl⟩;have hNl:=nums_len I;have n1:N <= 3 * I.length:=by omega
 have n2:3 * I.length <= N:=by omega
 have HNe:=Zz hN;have HO0:Hid (triK.own 36 w w.heap.size Clones.TT (.slice none 0 0) ([]:List Triple)):=Zz (Kd.own_nil _ _ _ _ _);have HS0:Hid (Some1 E I 0 []):=Zz ⟨rfl,fun x h=>(by cases h),fun i h h'=>absurd h' (by simp)⟩;rw [<- hN];clear HL HM hE hN hNl he;go_enter func78,ntmps78;go_wp2;go_loopw [6,7] (fun v6 v7 wr=>∃ (k e:Nat) (T:List Triple),v7 = .int .i64 e/\e <= 3 * k/\3 * k <= e/\k <= I.length/\Hid (Some1 E I k T)/\Hid (triK.own 36 wr w.heap.size Clones.TT v6 T)/\Hid (Below w.heap.size w wr)) (fun _ v7 _=>3 * I.length - (intOf v7).toNat)
 case atStart=>exact ⟨0,0,[],rfl,by omega,by omega,by omega,HS0,HO0,Zz (bR _ _)⟩
 case round =>
  obtain ⟨k,e,T,rfl,he1,he2,hk,HS,HO,HB⟩:=hrel;clear HO0 HS0;have htl:T.length <= 100:=by have:=HS.o.1;omega
  obtain ⟨A6,c6,rfl,_,_⟩:=Kd.own_slice HO.o;have w2:IntKind.i64.wrap ((e:Int) + 2) = (e:Int) + 2:=by rw [Zw];omega
  by_cases hlt:k < I.length
  ·
   have hd:decide ((e:Int) + 2 < (N:Int)) = true:=dT (by omega);have hdr:(e:Int) + 2 < (N:Int):=by omega
   obtain ⟨b,off,rfl,_,hbs,hcells⟩:=HRow.o (by rw [<- HNe.o];omega);obtain ⟨a1,a2,a3⟩:=nums_at I k hlt;obtain ⟨x,hx⟩:∃ x,x = I[k]:=⟨_,rfl⟩;rw [<- hx] at a1 a2 a3;have HX:=Zz hx;have hcell:∀ j v,(nums I)[3 * k + j]? = some v -> ∀ W,Below w.heap.size w W -> W.cell? ⟨b,off + (e + j),none⟩ = some (.int .i64 (v:Nat)):=fun j v hv W hW=>by
    obtain ⟨h1,h2⟩:=List.getElem?_eq_some_iff.1 hv;have h3:=(hW.cell (p:=⟨b,off + (3 * k + j),none⟩) hbs).trans (hcells (3 * k + j) h1);rw [h2] at h3;rw [show e + j = 3 * k + j by omega];exact h3
   have HC0:=Zz (hcell 0 _ a1);have HC1:=Zz (hcell 1 _ a2);have HC2:=Zz (hcell 2 _ a3);have HBad:=Zz (fun n (hn:n = x.a \/ n = x.b \/ n = x.c) hb T=>makes_bad (E:=E) hlt (n:=n) (by rw [<- hx];exact hn) hb T);clear hcell hcells hx a1 a2 a3;go_wp2;go_loopw [8] (fun v8 wx=>∃ j:Nat,v8 = .int .i64 j/\j <= 3/\Hid ((0 < j -> 1 <= x.a/\x.a <= E.length)/\(1 < j -> 1 <= x.b/\x.b <= E.length)/\(2 < j -> 1 <= x.c/\x.c <= E.length))/\wr = wx) (fun v8 _=>3 - (intOf v8).toNat)
   case atStart=>exact ⟨0,rfl,by omega,Zz ⟨fun h=>absurd h (by omega),fun h=>absurd h (by omega),fun h=>absurd h (by omega)⟩,rfl⟩
   case round =>
    obtain ⟨j,rfl,hj,HJ,rfl⟩:=hrel;by_cases hj3:j < 3
    ·
     have hd3:decide ((j:Int) < 3) = true:=dT (by omega);obtain ⟨q,hq,hcq⟩:∃ q:Nat,((j = 0/\q = x.a) \/ (j = 1/\q = x.b) \/ (j = 2/\q = x.c))/\wr.cell? ⟨b,off + (e + j),none⟩ = some (.int .i64 (q:Nat)):=by
      match j,hj3 with
      | 0,_=>exact ⟨x.a,.inl ⟨rfl,rfl⟩,HC0.o _ HB.o⟩
      | 1,_=>exact ⟨x.b,.inr (.inl ⟨rfl,rfl⟩),HC1.o _ HB.o⟩
      | 2,_=>exact ⟨x.c,.inr (.inr ⟨rfl,rfl⟩),HC2.o _ HB.o⟩
     obtain ⟨m,hm⟩:∃ m,m = e + j:=⟨_,rfl⟩;rw [<- hm] at hcq;have wm:IntKind.i64.wrap ((e:Int) + (j:Int)) = (m:Int):=by rw [Zw];omega
     have im:(m:Int) < (N:Int):=by omega
     have HQ:Hid (q = x.a \/ q = x.b \/ q = x.c):=Zz (by rcases hq with h | h | h <;> simp [h.2]);have HJ2:Hid (1 <= q -> q <= E.length -> (0 < j + 1 -> 1 <= x.a/\x.a <= E.length)/\(1 < j + 1 -> 1 <= x.b/\x.b <= E.length)/\(2 < j + 1 -> 1 <= x.c/\x.c <= E.length)):=Zz (fun h1 h2=>by
      have:=HJ.o;rcases hq with ⟨rfl,rfl⟩ | ⟨rfl,rfl⟩ | ⟨rfl,rfl⟩
      ·
       exact ⟨fun _=>⟨h1,h2⟩,fun h=>absurd h (by omega),fun h=>absurd h (by omega)⟩
      ·
       exact ⟨fun _=>this.1 (by omega),fun _=>⟨h1,h2⟩,fun h=>absurd h (by omega)⟩
      ·
       exact ⟨fun _=>this.1 (by omega),fun _=>this.2.1 (by omega),fun _=>⟨h1,h2⟩⟩)
     clear hm hq;by_cases b1:q < 1
     ·
      have e1:decide ((q:Int) < 1) = true:=dT (by omega);go_wp2;go_ret2;exact ⟨.inl ⟨fun T _=>HBad.o q HQ.o (.inl b1) T,rfl⟩,HB.o⟩
     have e1:decide ((q:Int) < 1) = false:=dF (by omega);by_cases b2:E.length < q
     ·
      have e2:decide ((E.length:Int) < (q:Int)) = true:=dT (by omega);go_wp2;go_ret2;exact ⟨.inl ⟨fun T _=>HBad.o q HQ.o (.inr b2) T,rfl⟩,HB.o⟩
     have e2:decide ((E.length:Int) < (q:Int)) = false:=dF (by omega);have HJ3:=Zz (HJ2.o (by omega) (by omega));go_wp2;go_roundw
     case rel=>exact ⟨j + 1,by go_num,by omega,HJ3,by first | rfl | trivial⟩
     case measure=>simp [intOf];omega
    ·
     have hd3:decide ((j:Int) < 3) = false:=dF (by omega);obtain ⟨g1,g2,g3⟩:=HJ.o;have ga:=g1 (by omega);have gb:=g2 (by omega);have gc:=g3 (by omega);obtain ⟨bE,oE,rfl,_,hbE,hce⟩:=HTe.o (by omega);obtain ⟨p1,hp1⟩:∃ p1,p1 = x.a - 1:=⟨_,rfl⟩;obtain ⟨p2,hp2⟩:∃ p2,p2 = x.b - 1:=⟨_,rfl⟩;obtain ⟨p3,hp3⟩:∃ p3,p3 = x.c - 1:=⟨_,rfl⟩;have l1:p1 < E.length:=by omega
     have l2:p2 < E.length:=by omega
     have l3:p3 < E.length:=by omega
     have HA1:Hid (At1 (E.map shown) x.a E[p1]):=Zz (by have h:=at1_get HIs.o (n:=x.a) ga.1 (by omega);simpa only [hp1] using h);have HA2:Hid (At1 (E.map shown) x.b E[p2]):=Zz (by have h:=at1_get HIs.o (n:=x.b) gb.1 (by omega);simpa only [hp2] using h);have HA3:Hid (At1 (E.map shown) x.c E[p3]):=Zz (by have h:=at1_get HIs.o (n:=x.c) gc.1 (by omega);simpa only [hp3] using h);have hc1:=(hce p1 l1).below HB.o;have hc2:=(hce p2 l2).below HB.o;have hc3:=(hce p3 l3).below HB.o;obtain ⟨t1,ht1⟩:∃ t1,t1 = E[p1]:=⟨_,rfl⟩;obtain ⟨t2,ht2⟩:∃ t2,t2 = E[p2]:=⟨_,rfl⟩;obtain ⟨t3,ht3⟩:∃ t3,t3 = E[p3]:=⟨_,rfl⟩;rw [<- ht1] at hc1 HA1;rw [<- ht2] at hc2 HA2;rw [<- ht3] at hc3 HA3;have s1:=ParseP.is_small HA1.o.1;have s2:=ParseP.is_small HA2.o.1;have s3:=ParseP.is_small HA3.o.1;have wa:IntKind.i64.wrap ((x.a:Int) - 1) = (p1:Int):=by rw [Zw];omega
     have wb:IntKind.i64.wrap ((x.b:Int) - 1) = (p2:Int):=by rw [Zw];omega
     have wc:IntKind.i64.wrap ((x.c:Int) - 1) = (p3:Int):=by rw [Zw];omega
     have i1:(p1:Int) < (E.length:Int):=by omega
     have i2:(p2:Int) < (E.length:Int):=by omega
     have i3:(p3:Int) < (E.length:Int):=by omega
     obtain ⟨m1,hm1⟩:∃ m1,m1 = e + 1:=⟨_,rfl⟩;obtain ⟨m2,hm2⟩:∃ m2,m2 = e + 2:=⟨_,rfl⟩;have v1':IntKind.i64.wrap ((e:Int) + 1) = (m1:Int):=by rw [Zw];omega
     have v2':IntKind.i64.wrap ((e:Int) + 2) = (m2:Int):=by rw [Zw];omega
     have im0:(e:Int) < (N:Int):=by omega
     have im1:(m1:Int) < (N:Int):=by omega
     have im2:(m2:Int) < (N:Int):=by omega
     have r0:=fun p:QT.Bel wr=>HC0.o p.w (bel_step HB.o p.bel)
     have r1:=fun p:QT.Bel wr=>HC1.o p.w (bel_step HB.o p.bel)
     have r2:=fun p:QT.Bel wr=>HC2.o p.w (bel_step HB.o p.bel)
     rw [<- hm1] at r1;rw [<- hm2] at r2;simp only [Nat.add_zero] at r0;have a0:=fun p:QT.Bel wr=>(hc1.bel p).c0
     have a1:=fun p:QT.Bel wr=>(hc1.bel p).c1
     have a2:=fun p:QT.Bel wr=>(hc1.bel p).c2
     have b0:=fun p:QT.Bel wr=>(hc2.bel p).c0
     have b1:=fun p:QT.Bel wr=>(hc2.bel p).c1
     have b2:=fun p:QT.Bel wr=>(hc2.bel p).c2
     have c0:=fun p:QT.Bel wr=>(hc3.bel p).c0
     have c1:=fun p:QT.Bel wr=>(hc3.bel p).c1
     have c2:=fun p:QT.Bel wr=>(hc3.bel p).c2
     clear hp1 hp2 hp3 ht1 ht2 ht3 hc1 hc2 hc3 hm1 hm2 w2 hce g1 g2 g3 HJ;obtain ⟨xa,xb,xc⟩:=x;obtain ⟨sk,sx,se⟩:=t1;obtain ⟨pk,px,pe⟩:=t2;obtain ⟨ok,ox,oe⟩:=t3;dsimp only at a0 a1 a2 b0 b1 b2 c0 c1 c2 wa wb wc r0 r1 r2;go_upto_region 10 with fail
     have HK:Hid (∀ W,Below wr.heap.size wr W -> W.cell? ⟨b,off + e,none⟩ = some (Value.int .i64 (xa:Nat))/\W.cell? ⟨b,off + m1,none⟩ = some (Value.int .i64 (xb:Nat))/\W.cell? ⟨b,off + m2,none⟩ = some (Value.int .i64 (xc:Nat))/\W.cell? ⟨bE,oE + p1 * 3,none⟩ = some (Value.int .i64 sk)/\W.cell? ⟨bE,oE + p1 * 3 + 1,none⟩ = some (Value.string (mkS sx))/\W.cell? ⟨bE,oE + p1 * 3 + 2,none⟩ = some (Value.string (mkS se))/\W.cell? ⟨bE,oE + p2 * 3,none⟩ = some (Value.int .i64 pk)/\W.cell? ⟨bE,oE + p2 * 3 + 1,none⟩ = some (Value.string (mkS px))/\W.cell? ⟨bE,oE + p2 * 3 + 2,none⟩ = some (Value.string (mkS pe))/\W.cell? ⟨bE,oE + p3 * 3,none⟩ = some (Value.int .i64 ok)/\W.cell? ⟨bE,oE + p3 * 3 + 1,none⟩ = some (Value.string (mkS ox))/\W.cell? ⟨bE,oE + p3 * 3 + 2,none⟩ = some (Value.string (mkS oe))):=Zz (fun W hb=>⟨r0 ⟨W,hb⟩,r1 ⟨W,hb⟩,r2 ⟨W,hb⟩,a0 ⟨W,hb⟩,a1 ⟨W,hb⟩,a2 ⟨W,hb⟩,b0 ⟨W,hb⟩,b1 ⟨W,hb⟩,b2 ⟨W,hb⟩,c0 ⟨W,hb⟩,c1 ⟨W,hb⟩,c2 ⟨W,hb⟩⟩);clear r0 r1 r2 a0 a1 a2 b0 b1 b2 c0 c1 c2;have hY:=bR wr.heap.size wr;go_region_held3 (fun W=>W.cell? ⟨b,off + e,none⟩ = some (Value.int .i64 (xa:Nat))/\W.cell? ⟨b,off + m1,none⟩ = some (Value.int .i64 (xb:Nat))/\W.cell? ⟨b,off + m2,none⟩ = some (Value.int .i64 (xc:Nat))/\W.cell? ⟨bE,oE + p1 * 3,none⟩ = some (Value.int .i64 sk)/\W.cell? ⟨bE,oE + p1 * 3 + 1,none⟩ = some (Value.string (mkS sx))/\W.cell? ⟨bE,oE + p1 * 3 + 2,none⟩ = some (Value.string (mkS se))/\W.cell? ⟨bE,oE + p2 * 3,none⟩ = some (Value.int .i64 pk)/\W.cell? ⟨bE,oE + p2 * 3 + 1,none⟩ = some (Value.string (mkS px))/\W.cell? ⟨bE,oE + p2 * 3 + 2,none⟩ = some (Value.string (mkS pe))/\W.cell? ⟨bE,oE + p3 * 3,none⟩ = some (Value.int .i64 ok)/\W.cell? ⟨bE,oE + p3 * 3 + 1,none⟩ = some (Value.string (mkS ox))/\W.cell? ⟨bE,oE + p3 * 3 + 2,none⟩ = some (Value.string (mkS oe)))
      (exact HK.o _ (by repeat (first | assumption | exact bR _ _ | refine bel_drew ?_ | refine bel_alloc ?_ _)))
      (fail)
     clear HK hY;have HFt:Hid (Ref5.FitsT ⟨⟨sk,sx,se⟩,⟨pk,px,pe⟩,⟨ok,ox,oe⟩⟩):=Zz (by
      dsimp only at s1 s2 s3;unfold Ref5.FitsT Ref5.Fits;dsimp only;omega)
     have HFw:Hid (FitsW3 ⟨⟨sk,sx,se⟩,⟨pk,px,pe⟩,⟨ok,ox,oe⟩⟩):=Zz (by
      dsimp only at s1 s2 s3;unfold FitsW3 FitsW;dsimp only;omega)
     have HN:=(Ref5.T9.new wr ⟨⟨sk,sx,se⟩,⟨pk,px,pe⟩,⟨ok,ox,oe⟩⟩).below (bel_drew (bR _ _));have hb5:Below wr.heap.size wr (wr.alloc (.cells #[.int .i64 sk,.string (mkS sx),.string (mkS se),.int .i64 pk,.string (mkS px),.string (mkS pe),.int .i64 ok,.string (mkS ox),.string (mkS oe)] 36)).drew:=bel_drew (bel_alloc (bR _ _) _);obtain ⟨w5,hw5⟩:∃ w5,w5 = (wr.alloc (.cells #[.int .i64 sk,.string (mkS sx),.string (mkS se),.int .i64 pk,.string (mkS px),.string (mkS pe),.int .i64 ok,.string (mkS ox),.string (mkS oe)] 36)).drew:=⟨_,rfl⟩;dsimp only at HN;rw [<- hw5] at HN hb5;rw [<- hw5];have HB5:=Zz (bel_step HB.o hb5);have HO5:=Zz (Kd.own_below HO.o hb5);have HN5:=Zz HN;have HIs5:=Zz (Ref5.is5_calls ⟨⟨sk,sx,se⟩,⟨pk,px,pe⟩,⟨ok,ox,oe⟩⟩ HFt.o w5 (HEn.o.below HB5.o));obtain ⟨⟨y0,y1,y2,_,_,_⟩,⟨y3,y4,y5,_,_,_⟩,⟨y6,y7,y8,_,_,_⟩⟩:=HN;simp only [Nat.zero_add,Nat.reduceAdd] at y1 y2 y4 y5 y7 y8;dsimp only at y0 y1 y2 y3 y4 y5 y6 y7 y8;unfold Ref5.tripleV at HIs5;dsimp only at HIs5;clear hw5 hb5 s1 s2 s3;go_wp2_with fail;refine HIs5.o.mono ?_;rintro e' w6 ⟨rfl,hb⟩;have HB6:=Zz (bel_step HB5.o hb);have HO6:=Zz (Kd.own_below HO5.o hb);have HN6:=HN5.o.below hb;obtain ⟨⟨z0,z1,z2,_,_,_⟩,⟨z3,z4,z5,_,_,_⟩,⟨z6,z7,z8,_,_,_⟩⟩:=HN6;simp only [Nat.zero_add,Nat.reduceAdd] at z1 z2 z4 z5 z7 z8;dsimp only at z0 z1 z2 z3 z4 z5 z6 z7 z8;clear hb y0 y1 y2 y3 y4 y5 y6 y7 y8 HIs5;cases ht:isTriple ⟨⟨sk,sx,se⟩,⟨pk,px,pe⟩,⟨ok,ox,oe⟩⟩ with
     | false =>
      have HF:Hid (∀ T,Valid T -> ¬ Makes (E.map shown) I T):=Zz (fun T hv=>makes_not hlt ht (by rw [<- HX.o];exact HA1.o) (by rw [<- HX.o];exact HA2.o) (by rw [<- HX.o];exact HA3.o) T hv);clear ht;go_wp2;go_ret2;exact ⟨.inl ⟨HF.o,rfl⟩,HB6.o⟩
     | true =>
      have HS2:=Zz (HS.o.snoc hlt ht (by rw [<- HX.o];exact HA1.o) (by rw [<- HX.o];exact HA2.o) (by rw [<- HX.o];exact HA3.o));have w3':IntKind.i64.wrap ((e:Int) + 3) = ((e + 3:Nat):Int):=by rw [Zw];omega
      clear ht;go_wp2_with (at_builtin;refine Kd.own_app1 triK (w0:=w) w.heap.size rfl (.tmp 69) (.tmp 71) 22 36 zeroV 120 rfl underlying22 info_tri rfl (by decide) _ T ⟨⟨sk,sx,se⟩,⟨pk,px,pe⟩,⟨ok,ox,oe⟩⟩ [.int .i64 sk,.string (mkS sx),.string (mkS se),.int .i64 pk,.string (mkS px),.string (mkS pe),.int .i64 ok,.string (mkS ox),.string (mkS oe)] Clones.TT (by rfl) (by rfl) HO6.o ⟨rfl,HFw.o⟩ HB6.o HB6.o.size (by omega) ?_;intro v1 w7 ho1 hb1 hg1 hv1;clear hg1 hv1;have HO7:=Zz ho1;have HB7:=Zz hb1;clear ho1 hb1;obtain ⟨A7,c7,rfl,_,_⟩:=Kd.own_slice HO7.o)
      go_wp2;go_roundw
      case rel=>exact ⟨k + 1,e + 3,T ++ [⟨⟨sk,sx,se⟩,⟨pk,px,pe⟩,⟨ok,ox,oe⟩⟩],by go_num,by omega,by omega,by omega,HS2,Zz (by have h:=HO7.o;rw [Zl] at h;exact h),HB7⟩
      case measure=>simp [intOf];omega
  ·
   have hd:decide ((e:Int) + 2 < (N:Int)) = false:=dF (by omega);have hdr:¬ (e:Int) + 2 < (N:Int):=by omega
   have hkl:k = I.length:=by omega
   have HM2:=Zz (HS.o);have HMk:Hid (Makes (E.map shown) I T):=Zz (Some1.makes (by rw [<- hkl];exact HS.o));have HMt:=Zz (Kd.own_sl (ok:=Clones.TT) (ok':=fun _=>True) HO.o (fun _ _=>trivial) (fun _ _=>trivial));clear hkl;go_wp2;go_ret2;exact ⟨.inr ⟨T,A6,c6,HMk.o,HS.o.2.1,rfl,HMt.o⟩,HB.o⟩
end RefTrip
namespace TripC
open Go.RowKit Go.Lib B Rd TermPure LinesPure Tri Long Env
def IsT3 (t:Triple):Prop:=is t.s = true/\is t.p = true/\is t.o = true
theorem IsT3.fits {t:Triple} (h:IsT3 t):Ref5.FitsT t/\(t.s.extra.length <= 4294967000/\t.p.extra.length <= 4294967000/\t.o.extra.length <= 4294967000)/\FitsW3 t:=by
 have h1:=ParseP.is_small h.1;have h2:=ParseP.is_small h.2.1;have h3:=ParseP.is_small h.2.2;unfold Ref5.FitsT Ref5.Fits FitsW3 FitsW;omega
theorem clo_calls (t:Triple) (ht:IsT3 t) (w:World) (he:Env w) :
  Calls Tryz.prog 116 #[Ref5.tripleV t] w fun e w'=>e = .returned (.bool (!isTriple t))/\Below w.heap.size w w':=by
 have hb:Below w.heap.size w (w.alloc (.cells (triL t).toArray 36)):=bel_alloc (bR _ _) _;have hx:=C9.new w t;obtain ⟨w0,hw0⟩:∃ w0,w0 = w.alloc (.cells (triL t).toArray 36):=⟨_,rfl⟩;rw [<- hw0] at hb hx;have HB:=Zz hb;have HW:Hid (w.alloc (.cells (triL t).toArray 36) = w0):=Zz hw0.symm;have HM:=Zz (Prg.pist_calls t ht.fits.1 ht.fits.2.1 w0 (he.below hb));obtain ⟨x0,x1,x2,x3,x4,x5,x6,x7,x8⟩:=hx;simp only [Nat.zero_add] at x1 x2 x3 x4 x5 x6 x7 x8;generalize isTriple t = v at *;clear hb hw0 ht he;obtain ⟨⟨sk,sx,se⟩,⟨pk,px,pe⟩,⟨ok,ox,oe⟩⟩:=t;unfold triL at HW;unfold Ref5.tripleV at *;dsimp only at *;go_enter func116,ntmps116;go_upto_region 1 with fail
 rw [HW.o];clear HW;go_wp2_with fail;refine HM.o.mono ?_;rintro e w2 ⟨rfl,hb2⟩;have HB2:=Zz (bel_step HB.o hb2);clear hb2 HM;go_wp2;go_ret;exact ⟨rfl,HB2.o⟩
theorem all_snoc {l:List Triple} {k:Nat} (h:k < l.length) (hk:(l.take k).all isTriple = true) (hx:isTriple l[k] = true):(l.take (k + 1)).all isTriple = true:=by
 rw [Zt h,List.all_append,hk];simp [hx]
theorem all_not {l:List Triple} {k:Nat} (h:k < l.length) (hx:isTriple l[k] = false):l.all isTriple = false:=by
 rw [<- Bool.not_eq_true,List.all_eq_true];intro h2;rw [h2 _ (Zm h)] at hx;cases hx
theorem index_calls (l:List Triple) (hl:l.length <= 1000) (hf:∀ t ∈ l,IsT3 t) (A:Option Addr) (c:Nat) (w:World) (he:Env w) (HL:triK.sl.M w (fun k=>k < w.heap.size) l [.slice A l.length c]) :
  Calls Tryz.prog 150 #[.slice A l.length c,.func (.func 116) #[] #[]] w fun e w'=>(∃ r:Int,e = .returned (.int .i64 r)/\((r = -1/\l.all isTriple = true) \/ (0 <= r/\l.all isTriple = false)))/\Below w.heap.size w w':=by
 have HR:=Zz (row_cells HL);have HF:=Zz hf;have HE:=Zz he;clear HL he hf;go_enter func150,ntmps150;go_wp2;go_loopw [8] (fun vk wr=>∃ k:Nat,vk = .int .i64 k/\k <= l.length/\Hid ((l.take k).all isTriple = true/\Below w.heap.size w wr)) (fun vk _=>l.length - (intOf vk).toNat)
 case atStart=>exact ⟨0,rfl,by omega,Zz ⟨rfl,bR _ _⟩⟩
 case round =>
  obtain ⟨k,rfl,hkL,HI⟩:=hrel;by_cases hlt:k < l.length
  ·
   have hd:decide (k < l.length) = true:=dT hlt;have ik:(k:Int) < (l.length:Int):=by omega
   obtain ⟨b,off,rfl,hb,hcells⟩:=HR.o k hlt;obtain ⟨z0,z1,z2,z3,z4,z5,z6,z7,z8⟩:=(hcells k hlt).below HI.o.2;have hft:=HF.o l[k] (Zm hlt);have HS:Hid (isTriple l[k] = true -> (l.take (k + 1)).all isTriple = true):=Zz (fun h=>all_snoc hlt HI.o.1 h);have HNo:Hid (isTriple l[k] = false -> l.all isTriple = false):=Zz (fun h=>all_not hlt h);have HB:=Zz HI.o.2;clear hcells HI;obtain ⟨t,ht⟩:∃ t,t = l[k]:=⟨_,rfl⟩;rw [<- ht] at z0 z1 z2 z3 z4 z5 z6 z7 z8 hft HS HNo;clear ht;have HC:=Zz (clo_calls t hft wr (HE.o.below HB.o));obtain ⟨v,hv⟩:∃ v,v = isTriple t:=⟨_,rfl⟩;rw [<- hv] at HC HS HNo;clear hv hft;obtain ⟨⟨sk,sx,se⟩,⟨pk,px,pe⟩,⟨ok,ox,oe⟩⟩:=t;unfold Ref5.tripleV at HC;dsimp only at z0 z1 z2 z3 z4 z5 z6 z7 z8 HC;cases v
   ·
    have HV:=Zz (HNo.o rfl);clear HNo HS;go_wp2_with fail;refine HC.o.mono ?_;rintro e w2 ⟨rfl,hb2⟩;have HB2:=Zz (bel_step HB.o hb2);clear hb2 HC;go_wp2;go_ret;exact ⟨⟨_,rfl,.inr ⟨by omega,HV.o⟩⟩,HB2.o⟩
   ·
    have HV:=Zz (HS.o rfl);clear HNo HS;go_wp2_with fail;refine HC.o.mono ?_;rintro e w2 ⟨rfl,hb2⟩;have HB2:=Zz (bel_step HB.o hb2);clear hb2 HC;go_wp2;go_roundw
    case rel=>exact ⟨k + 1,by go_num,by omega,Zz ⟨HV.o,HB2.o⟩⟩
    case measure=>simp [intOf];omega
  ·
   have hd:decide (k < l.length) = false:=dF hlt;obtain rfl:k = l.length:=by omega
   have HV:Hid (l.all isTriple = true):=Zz (by have h:=HI.o.1;rw [List.take_length] at h;exact h);have HB:=Zz HI.o.2;clear HI;go_wp2;go_ret;exact ⟨⟨_,rfl,.inl ⟨rfl,HV.o⟩⟩,HB.o⟩
theorem contains_calls (l:List Triple) (hl:l.length <= 1000) (hf:∀ t ∈ l,IsT3 t) (A:Option Addr) (c:Nat) (w:World) (he:Env w) (HL:triK.sl.M w (fun k=>k < w.heap.size) l [.slice A l.length c]) :
  Calls Tryz.prog 115 #[.slice A l.length c,.func (.func 116) #[] #[]] w fun e w'=>e = .returned (.bool (!l.all isTriple))/\Below w.heap.size w w':=by
 have HC:=Zz (index_calls l hl hf A c w he HL);clear HL he hf;go_enter func115,ntmps115;go_wp2_with fail;refine HC.o.mono ?_;rintro e w2 ⟨⟨r,rfl,hr⟩,hb2⟩;have HB2:=Zz hb2;clear hb2 HC;rcases hr with ⟨rfl,hv⟩ | ⟨h0,hv⟩
 ·
  have HV:=Zz hv;clear hv;go_wp2;go_ret;exact ⟨by rw [HV.o];rfl,HB2.o⟩
 ·
  have hd:decide (r ≥ 0) = true:=dT h0;have hd':decide (0 <= r) = true:=dT h0;have HV:=Zz hv;clear hv;go_wp2;go_ret;exact ⟨by rw [HV.o];first | rfl | trivial,HB2.o⟩
end TripC
namespace TripP
open Go.Lib TermPure LinesPure Tri SortP OrdG ParseP StoreP TripC
def textOf (L:List (List UInt8)) (n:Nat):List UInt8:=if 1 <= n then L.getD (n - 1) [] else []
theorem at1_text {L:List (List UInt8)} {n:Nat} {t:Term} (h:At1 L n t):textOf L n = shown t:=by
 unfold textOf;rw [if_pos h.2.1,List.getD_eq_getElem?_getD,h.2.2]
 try rfl
theorem at1_of_text {L:List (List UInt8)} {n:Nat} {t:Term} (h:TermIs (textOf L n) (some t)):At1 L n t:=by
 obtain ⟨h1,h2⟩:=(h t).1 rfl;have hne:=shown_ne h1;rw [h2] at hne;unfold textOf at h2 hne;by_cases hn:1 <= n
 ·
  rw [if_pos hn,List.getD_eq_getElem?_getD] at h2 hne;refine ⟨h1,hn,?_⟩;cases hg:L[n - 1]? with
  | none=>rw [hg] at hne;exact absurd rfl hne
  | some x=>rw [hg] at h2;rw [h2];rfl
 ·
  rw [if_neg hn] at hne;exact absurd rfl hne
theorem text_len {L:List (List UInt8)} {m:Nat} (h:∀ x ∈ L,x.length <= m) (n:Nat):(textOf L n).length <= m:=by
 unfold textOf
 split
 ·
  rw [List.getD_eq_getElem?_getD];cases hg:L[n - 1]? with
  | none=>simp
  | some x=>exact h x (List.mem_of_getElem? hg)
 ·
  simp
theorem none_makes {L:List (List UInt8)} {I:List Ids} {k:Nat} (h:k < I.length) {n:Nat} (hn:n = I[k].a \/ n = I[k].b \/ n = I[k].c) (ht:TermIs (textOf L n) none) (T:List Triple):¬ Makes L I T:=fun hm=>by
 obtain ⟨a1,a2,a3⟩:=hm.2 k h (by rw [hm.1];exact h)
 have key:∀ t,At1 L n t -> False:=fun t ha=>by
  have:=(ht t).2 ⟨ha.1,(at1_text ha).symm⟩
  cases this
 rcases hn with rfl | rfl | rfl
 ·
  exact key _ a1
 ·
  exact key _ a2
 ·
  exact key _ a3
def AtI (L:List (List UInt8)) (I:List Ids) (x:Fin I.length) (t:Triple):Prop:=At1 L I[x.1].a t.s/\At1 L I[x.1].b t.p/\At1 L I[x.1].c t.o
def Part (L:List (List UInt8)) (I:List Ids) (pre:List (Fin I.length)) (T:List Triple):Prop:=
 T.length = pre.length/\∀ i (h:i < pre.length) (h':i < T.length),AtI L I pre[i] T[i]
theorem Part.nil (L:List (List UInt8)) (I:List Ids):Part L I [] []:=⟨rfl,fun i h=>absurd h (by simp)⟩
theorem Part.snoc {L:List (List UInt8)} {I:List Ids} {pre:List (Fin I.length)} {T:List Triple} (h:Part L I pre T) {x:Fin I.length} {t:Triple} (h1:At1 L I[x.1].a t.s) (h2:At1 L I[x.1].b t.p) (h3:At1 L I[x.1].c t.o):Part L I (pre ++ [x]) (T ++ [t]):=by
 refine ⟨by simp [h.1],fun i hi hi'=>?_⟩;by_cases hik:i < T.length
 ·
  have hip:i < pre.length:=by rw [<- h.1];exact hik
  have e1:(T ++ [t])[i] = T[i]:=List.getElem_append_left hik;have e2:(pre ++ [x])[i] = pre[i]:=List.getElem_append_left hip;rw [e1,e2];exact h.2 i hip hik
 ·
  have hlt:i = T.length:=by simp at hi';omega
  have hlp:i = pre.length:=by rw [hlt,h.1]
  have e1:(T ++ [t])[i] = t:=by rw [List.getElem_append_right (by omega)];simp [hlt]
  have e2:(pre ++ [x])[i] = x:=by rw [List.getElem_append_right (by omega)];simp [hlp]
  rw [e1,e2];exact ⟨h1,h2,h3⟩
theorem Part.makes {L:List (List UInt8)} {I:List Ids} {T:List Triple} (h:Part L I (List.finRange I.length) T):Makes L I T:=by
 refine ⟨by rw [h.1];simp,fun i hi hi'=>?_⟩;have:=h.2 i (by simpa using hi) hi';rw [List.getElem_finRange] at this;exact this
theorem Part.is {L:List (List UInt8)} {I:List Ids} {pre:List (Fin I.length)} {T:List Triple} (h:Part L I pre T):∀ t ∈ T,IsT3 t:=fun t ht=>by
 obtain ⟨i,hi,rfl⟩:=List.mem_iff_getElem.1 ht
 obtain ⟨a1,a2,a3⟩:=h.2 i (by rw [<- h.1];exact hi) hi
 exact ⟨a1.1,a2.1,a3.1⟩
theorem Part.len {L:List (List UInt8)} {I:List Ids} {pre:List (Fin I.length)} {T:List Triple} (h:Part L I pre T):T.length = pre.length:=h.1
theorem makes_all {L:List (List UInt8)} {I:List Ids} {T:List Triple} (h:Makes L I T) (hv:T.all isTriple = false) (U:List Triple) (hU:Valid U):¬ Makes L I U:=fun hm=>by
 have:=hm.inj h
 subst this
 have h2:U.all isTriple = true:=List.all_eq_true.2 (fun x hx=>hU x hx)
 rw [h2] at hv
 cases hv
end TripP
namespace FrontW
open Go.RowKit Go.Lib B Rd StoreW Clones FrontP
theorem dall_calls (g:Nat) (w:World) (A:Option Addr) (n c:Nat) (h:w.cell? ⟨g,0,none⟩ = some (.slice A n c)) :
  Calls Tryz.prog 111 #[.pointer (some ⟨g,0,none⟩)] w fun e w'=>e = .returned (.slice A n c)/\w = w':=by
 go_enter func111,ntmps111;go_wp2;go_ret;exact ⟨rfl,rfl⟩
theorem dlen_calls (l:List (List UInt8)) (g:Nat) (w:World) (ok:Nat -> Prop) (h:DictAt w ok g l) :
  Calls Tryz.prog 69 #[.pointer (some ⟨g,0,none⟩)] w fun e w'=>e = .returned (.int .i64 (l.length:Nat))/\w = w':=by
 obtain ⟨A,c,hg,_⟩:=h;have HC:=Zz (dall_calls g w A l.length c hg);go_enter func69,ntmps69;go_wp2_with fail;refine HC.o.mono ?_;rintro e w2 ⟨rfl,rfl⟩;go_wp2;go_ret;exact ⟨rfl,rfl⟩
theorem extract_calls (l:List (List UInt8)) (n:Nat) (hn:n <= 1000000000) (hl:l.length <= 1000000) (g:Nat) (w:World) (ok:Nat -> Prop) (h:DictAt w ok g l) :
  Calls Tryz.prog 114 #[.pointer (some ⟨g,0,none⟩),.int .i64 n] w fun e w'=>e = .returned (.string (mkS (if 1 <= n then l.getD (n - 1) [] else [])))/\w = w':=by
 have HL:=Zz (dlen_calls l g w ok h);obtain ⟨A,c,hg,hM⟩:=h;have HRow:=Zz (fun hp=>str_cells hM hp);have hnil:mkS [] = (⟨#[]⟩:ByteArray):=rfl;clear hM;by_cases h1:n < 1
 ·
  have d1:decide ((n:Int) < 1) = true:=dT (by omega);have HR:Hid ((if 1 <= n then l.getD (n - 1) [] else []) = []):=Zz (if_neg (by omega));rw [HR.o];go_enter func114,ntmps114;go_wp2;go_ret;exact ⟨rfl,rfl⟩
 have d1:decide ((n:Int) < 1) = false:=dF (by omega);by_cases h2:l.length < n
 ·
  have d2:decide ((l.length:Int) < (n:Int)) = true:=dT (by omega);have HR:Hid ((if 1 <= n then l.getD (n - 1) [] else []) = []):=Zz (by
   rw [if_pos (by omega),List.getD_eq_getElem?_getD,List.getElem?_eq_none (by omega)];rfl)
  rw [HR.o];go_enter func114,ntmps114;go_wp2_with fail;refine HL.o.mono ?_;rintro e w2 ⟨rfl,rfl⟩;go_wp2;go_ret;exact ⟨rfl,rfl⟩
 have d2:decide ((l.length:Int) < (n:Int)) = false:=dF (by omega);obtain ⟨j,hj⟩:∃ j,j = n - 1:=⟨_,rfl⟩;have hjl:j < l.length:=by omega
 have HR:Hid ((if 1 <= n then l.getD (n - 1) [] else []) = l[j]):=Zz (by
  rw [if_pos (by omega),<- hj,List.getD_eq_getElem?_getD,Zg hjl];rfl)
 rw [HR.o];have hw1:IntKind.i64.wrap ((n:Int) - 1) = (j:Int):=by rw [Zw];omega
 have ij:(j:Int) < (l.length:Int):=by omega
 obtain ⟨b,off,rfl,_,_,hcells⟩:=HRow.o (by omega);have hc:=hcells j hjl;generalize l[j] = x at *;clear hcells hj;go_enter func114,ntmps114;go_wp2_with fail;refine HL.o.mono ?_;rintro e w2 ⟨rfl,rfl⟩;go_wp2;go_ret;exact ⟨rfl,rfl⟩
end FrontW
namespace ShownW
open Go.RowKit Go.Lib B Rd TermPure LinesPure Tri Env StoreP
def headA:List UInt8:=[60,97,62,32,60,97,62,32]
def tA:Term:=⟨1,[97],[]⟩
theorem line_of {t:Term} (h:is t = true):lineOf false (headA ++ shown t ++ [32,46]) = some (some ⟨tA,tA,t⟩):=by
 have ht:isTriple ⟨tA,tA,t⟩ = true:=by
  unfold isTriple;have ha:is tA = true:=by decide +kernel
  simp only [ha,h];rfl
 have:=Round.lineOf_shown ht;unfold Round.lineT at this;have e:shown tA = [60,97,62]:=by decide +kernel
 simp only [e] at this;simpa [headA] using this
theorem line_some (x:List UInt8):lineOf false (60 :: x) ≠ some none:=by
 unfold lineOf;intro h
 split at h
 ·
  cases h
 ·
  split at h
  ·
   rename_i h2
   have hb:blanks (60 :: x) = 60 :: x:=by
    exact List.dropWhile_cons_of_neg (by decide)
   rw [hb] at h2;simp [over] at h2
  ·
   repeat' split at h
   all_goals cases h
def pickT (s:List UInt8):Option (Option Triple) -> Option Term
 | some (some tr)=>if shown tr.o = s then some tr.o else none
 | _=>none
def byLine (s:List UInt8):Option Term:=pickT s (lineOf false (headA ++ s ++ [32,46]))
theorem byLine_eq (s:List UInt8):byLine s = pickT s (lineOf false (headA ++ s ++ [32,46])):=by rw [byLine]
theorem byLine_is (s:List UInt8):TermIs s (byLine s):=fun t=>by
 constructor
 ·
  intro h
  unfold byLine at h
  cases hl:lineOf false (headA ++ s ++ [32,46]) with
  | none=>rw [hl] at h;cases h
  | some o =>
   cases o with
   | none=>rw [hl] at h;cases h
   | some tr =>
    rw [hl] at h
    rw [pickT] at h
    by_cases hs:shown tr.o = s
    ·
     rw [if_pos hs] at h
     injection h with h
     rw [<- h]
     exact ⟨(ParseP.isT_parts (ParseP.lineOf_is hl)).2.2,hs⟩
    ·
     rw [if_neg hs] at h
     cases h
 ·
  rintro ⟨h1,rfl⟩
  unfold byLine
  rw [line_of h1,pickT,if_pos rfl]
theorem shown_calls (s:List UInt8) (hs:s.length <= 1000) (w:World) (he:Env w) :
  Calls Tryz.prog 113 #[.string (mkS s)] w fun e w'=>(∃ r,TermIs s r/\match r with
   | some t=>e = .returned (.tuple #[Ref5.termV t,.bool true])
   | none=>∃ t,e = .returned (.tuple #[Ref5.termV t,.bool false]))/\Below w.heap.size w w':=by
 have HI:=Zz (byLine_is s);have HB:=Zz (byLine_eq s);have HNo:=Zz (line_some ([97,62,32,60,97,62,32] ++ s ++ [32,46]));obtain ⟨X,hX⟩:∃ X,X = headA ++ s ++ [32,46]:=⟨_,rfl⟩;have hXl:X.length <= 1010:=by rw [hX];simp [headA];omega
 obtain ⟨Y,hY⟩:∃ Y,Y = headA ++ s:=⟨_,rfl⟩;have hYl:Y.length <= 1008:=by rw [hY];simp [headA];omega
 have hc1:(⟨#[60,97,62,32,60,97,62,32]⟩:ByteArray) ++ mkS s = mkS Y:=by
  rw [show (⟨#[60,97,62,32,60,97,62,32]⟩:ByteArray) = mkS headA from rfl,mkS_append,hY]
 have hc2:mkS Y ++ (⟨#[32,46]⟩:ByteArray) = mkS X:=by
  rw [show (⟨#[32,46]⟩:ByteArray) = mkS [32,46] from rfl,mkS_append,hX,hY]
 have zs:=mkS_size s;have zY:=mkS_size Y;have zX:=mkS_size X;have h8:(⟨#[60,97,62,32,60,97,62,32]⟩:ByteArray).size = 8:=rfl;have h2:(⟨#[32,46]⟩:ByteArray).size = 2:=rfl;rw [show (60 :: ([97,62,32,60,97,62,32] ++ s ++ [32,46])) = X by rw [hX,headA];simp only [List.cons_append]] at HNo;rw [<- hX] at HB;have hb0:Below w.heap.size w (w.alloc (.cells #[.int .i64 0,.string ⟨#[]⟩,.string ⟨#[]⟩] 24)):=bel_alloc (bR _ _) _;have HOne:=Zz (Prg.one_calls X (by omega) _ (he.below hb0));have HB0:=Zz hb0;clear hX hY hb0 he;go_enter func113,ntmps113;go_wp2_with fail;refine HOne.o.mono ?_;rintro e w2 ⟨⟨rfl,hfit⟩,hb⟩;have HB2:=Zz (bel_step HB0.o hb);have hz2:w.heap.size < w2.heap.size:=Nat.lt_of_lt_of_le (by simp) hb.size;have HC0:Hid (∀ W,Below (w.alloc (.cells #[.int .i64 0,.string ⟨#[]⟩,.string ⟨#[]⟩] 24)).heap.size (w.alloc (.cells #[.int .i64 0,.string ⟨#[]⟩,.string ⟨#[]⟩] 24)) W -> W.cell? ⟨w.heap.size,0,none⟩ = some (.int .i64 0)/\W.cell? ⟨w.heap.size,1,none⟩ = some (.string ⟨#[]⟩)/\W.cell? ⟨w.heap.size,2,none⟩ = some (.string ⟨#[]⟩)/\∀ j,W.frozen? ⟨w.heap.size,j,none⟩ = false):=Zz (fun W hb=>by
  have hlt:w.heap.size < (w.alloc (.cells #[.int .i64 0,.string ⟨#[]⟩,.string ⟨#[]⟩] 24)).heap.size:=by simp
  refine ⟨(hb.cell (p:=⟨w.heap.size,0,none⟩) hlt).trans ?_,(hb.cell (p:=⟨w.heap.size,1,none⟩) hlt).trans ?_,(hb.cell (p:=⟨w.heap.size,2,none⟩) hlt).trans ?_,fun j=>(hb.frozen (p:=⟨w.heap.size,j,none⟩) hlt).trans ?_⟩
  ·
   rw [World.cell?,Kd.heap_new];rfl
  ·
   rw [World.cell?,Kd.heap_new];rfl
  ·
   rw [World.cell?,Kd.heap_new];rfl
  ·
   unfold World.frozen?;dsimp only;rw [Kd.heap_new];rfl)
 have HBa:=Zz hb;clear hb HOne;cases hl:lineOf false X with
 | none =>
  have HPick:Hid (byLine s = none):=Zz (by rw [HB.o,hl];rfl);have hone:Ref5.oneV none = .tuple #[Ref5.tripleV Ref5.zeroTr,.bool false,.bool false]:=rfl;rw [hone];obtain ⟨tr,htr⟩:∃ tr,tr = Ref5.zeroTr:=⟨_,rfl⟩;rw [<- htr];clear hone htr;have hbx:=fun p=>Print.box9 w2 tr p
  have hbel3:=bel_alloc (bR w2.heap.size w2) (.cells #[.int .i64 tr.s.kind,.string (mkS tr.s.text),.string (mkS tr.s.extra),.int .i64 tr.p.kind,.string (mkS tr.p.text),.string (mkS tr.p.extra),.int .i64 tr.o.kind,.string (mkS tr.o.text),.string (mkS tr.o.extra)] 36);obtain ⟨w3,hw3⟩:∃ w3,w3 = w2.alloc (.cells #[.int .i64 tr.s.kind,.string (mkS tr.s.text),.string (mkS tr.s.extra),.int .i64 tr.p.kind,.string (mkS tr.p.text),.string (mkS tr.p.extra),.int .i64 tr.o.kind,.string (mkS tr.o.text),.string (mkS tr.o.extra)] 36):=⟨_,rfl⟩;rw [<- hw3] at hbel3 hbx;have HWX:=Zz hw3.symm;have HB3:=Zz hbel3;have g6:=fun p:QT.Bel w3=>(hbx p).2.2.2.2.2.2.1
  have g7:=fun p:QT.Bel w3=>(hbx p).2.2.2.2.2.2.2.1
  have g8:=fun p:QT.Bel w3=>(hbx p).2.2.2.2.2.2.2.2
  clear hw3 hbel3 hbx hl HB hfit;unfold Ref5.tripleV;obtain ⟨⟨sk,sx,se⟩,⟨pk,px,pe⟩,⟨ok,ox,oe⟩⟩:=tr;dsimp only at g6 g7 g8 HWX;dsimp only;go_upto_region 2 with fail
  rw [HWX.o];clear HWX;have HC3:Hid (∀ W,Below w3.heap.size w3 W -> W.cell? ⟨w.heap.size,0,none⟩ = some (.int .i64 0)/\W.cell? ⟨w.heap.size,1,none⟩ = some (.string ⟨#[]⟩)/\W.cell? ⟨w.heap.size,2,none⟩ = some (.string ⟨#[]⟩)/\∀ j,W.frozen? ⟨w.heap.size,j,none⟩ = false):=Zz (fun W hb=>HC0.o W (bel_step (bel_step HBa.o HB3.o) hb));have HS3:Hid (∀ W,Below w3.heap.size w3 W -> W.cell? ⟨w2.heap.size,6,none⟩ = some (.int .i64 ok)/\W.cell? ⟨w2.heap.size,7,none⟩ = some (.string (mkS ox))/\W.cell? ⟨w2.heap.size,8,none⟩ = some (.string (mkS oe))):=Zz (fun W hb=>⟨g6 ⟨W,hb⟩,g7 ⟨W,hb⟩,g8 ⟨W,hb⟩⟩);clear g6 g7 g8;have hn1:∀ i j,(⟨w2.heap.size,i,none⟩:Addr) ≠ ⟨w.heap.size,j,none⟩:=fun i j e=>by injection e;omega
  have hn2:∀ i j,(⟨w.heap.size,j,none⟩:Addr) ≠ ⟨w2.heap.size,i,none⟩:=fun i j e=>by injection e;omega
  have hcur:=bR w3.heap.size w3;obtain ⟨k0,k1,k2,kf⟩:=HC3.o w3 hcur;have kf0:=kf 0;have kf1:=kf 1;have kf2:=kf 2;clear kf;refine HeldZ.region (fun W=>W.cell? ⟨w2.heap.size,6,none⟩ = some (Value.int .i64 ok)/\W.cell? ⟨w2.heap.size,7,none⟩ = some (Value.string (mkS ox))/\W.cell? ⟨w2.heap.size,8,none⟩ = some (Value.string (mkS oe))) 11 12 #[false,false,false,false,false,false,false,false,false,false,false,false] (by kernel_rfl) rfl rfl ?_;intro hinv;have hS:=HS3.o w3.drew (bel_drew hcur)
  try dsimp only at hS
  refine HeldZ.tk 0 hinv hS ?_;clear hinv;intro hinv
  try simp only [Act.put,Zs,HeldZ.sm] at hinv |-
  refine HeldZ.tk 1 hinv hS ?_;clear hinv;intro hinv
  try simp only [Act.put,Zs,HeldZ.sm] at hinv |-
  refine HeldZ.tk 2 hinv hS ?_;clear hinv;intro hinv
  try simp only [Act.put,Zs,HeldZ.sm] at hinv |-
  refine HeldZ.tk 3 hinv hS ?_;clear hinv;intro hinv
  try simp only [Act.put,Zs,HeldZ.sm] at hinv |-
  refine HeldZ.take (v:=undef) 4 hinv rfl (by kernel_rfl) (by kernel_rfl) (by decide) (by decide) (by kernel_rfl) (by kernel_rfl) (by kernel_rfl) (fun _ _ _ h=>h) hS (Or.inr ⟨by rfl,rfl⟩) ?_;clear hinv;intro hinv
  try simp only [Act.put,Zs,HeldZ.sm] at hinv |-
  refine HeldZ.take (v:=undef) 5 hinv rfl (by kernel_rfl) (by kernel_rfl) (by decide) (by decide) (by kernel_rfl) (by kernel_rfl) (by kernel_rfl) (fun _ _ _ h=>h) hS (Or.inr ⟨by rfl,rfl⟩) ?_;clear hinv;intro hinv
  try simp only [Act.put,Zs,HeldZ.sm] at hinv |-
  refine HeldZ.take (v:=undef) 6 hinv rfl (by kernel_rfl) (by kernel_rfl) (by decide) (by decide) (by kernel_rfl) (by kernel_rfl) (by kernel_rfl) (fun _ _ _ h=>h) hS (Or.inr ⟨by rfl,rfl⟩) ?_;clear hinv;intro hinv
  try simp only [Act.put,Zs,HeldZ.sm] at hinv |-
  refine HeldZ.take (v:=undef) 7 hinv rfl (by kernel_rfl) (by kernel_rfl) (by decide) (by decide) (by kernel_rfl) (by kernel_rfl) (by kernel_rfl) (fun _ _ _ h=>h) hS (Or.inr ⟨by rfl,rfl⟩) ?_;clear hinv;intro hinv
  try simp only [Act.put,Zs,HeldZ.sm] at hinv |-
  refine HeldZ.take (v:=undef) 8 hinv rfl (by kernel_rfl) (by kernel_rfl) (by decide) (by decide) (by kernel_rfl) (by kernel_rfl) (by kernel_rfl) (fun _ _ _ h=>h) hS (Or.inr ⟨by rfl,rfl⟩) ?_;clear hinv;intro hinv
  try simp only [Act.put,Zs,HeldZ.sm] at hinv |-
  refine HeldZ.tk 9 hinv hS ?_;clear hinv;intro hinv
  try simp only [Act.put,Zs,HeldZ.sm] at hinv |-
  refine HeldZ.ow 10 hinv ?_;clear hinv;intro hinv K hK;go_simp;refine hK _ _ (fun _=>?hst) ?_
  case hst =>
   obtain ⟨s6,s7,s8⟩:=hS;refine ⟨?_,?_,?_⟩
   ·
    iterate 3 (first | (refine (Zo _ _ _ _ (hn1 _ _)).trans ?_) | (refine (Zo _ _ _ _ (hn2 _ _)).trans ?_))
    exact s6
   ·
    iterate 3 (first | (refine (Zo _ _ _ _ (hn1 _ _)).trans ?_) | (refine (Zo _ _ _ _ (hn2 _ _)).trans ?_))
    exact s7
   ·
    iterate 3 (first | (refine (Zo _ _ _ _ (hn1 _ _)).trans ?_) | (refine (Zo _ _ _ _ (hn2 _ _)).trans ?_))
    exact s8
  clear hK K
  try simp only [Act.put,Zs,HeldZ.sm] at hinv |-
  refine HeldZ.oneW 11 hinv (by kernel_rfl) rfl (by rfl) ?_;clear hinv;intro _ K hK;go_simp;refine hK _ _ (fun h=>absurd rfl h) ?_;refine HeldZ.done (by kernel_rfl) ?_ _;clear hK K hS
  all_goals (
   have HB5:=Zz (bel_step HB2.o (bel_step HB3.o hcur));obtain ⟨w6,hw6⟩:∃ w6,w6 = ((w3.setCell ⟨w.heap.size,0,none⟩ (.int .i64 ok)).setCell ⟨w.heap.size,1,none⟩ (.string (mkS ox))).setCell ⟨w.heap.size,2,none⟩ (.string (mkS oe)):=⟨_,rfl⟩;have e0:w6.cell? ⟨w.heap.size,0,none⟩ = some (.int .i64 ok):=by
    rw [hw6,Zo _ _ _ _ (by simp),Zo _ _ _ _ (by simp)];exact World.cell?_setCell_same _ _ _ k0
   have e1:w6.cell? ⟨w.heap.size,1,none⟩ = some (.string (mkS ox)):=by
    rw [hw6,Zo _ _ _ _ (by simp)];exact World.cell?_setCell_same _ _ _ ((Zo _ _ _ _ (by simp)).trans k1)
   have e2:w6.cell? ⟨w.heap.size,2,none⟩ = some (.string (mkS oe)):=by
    rw [hw6];exact World.cell?_setCell_same _ _ _ ((Zo _ _ _ _ (by simp)).trans ((Zo _ _ _ _ (by simp)).trans k2))
   have HB6:Hid (Below w.heap.size w w6):=Zz (by rw [hw6];exact bel_set (bel_set (bel_set HB5.o (lR _) _) (lR _) _) (lR _) _);rw [<- hw6];clear hw6 k0 k1 k2 kf0 kf1 kf2 hcur;go_wp2;refine bodyPost_ret (v:=.tuple #[.agg #[.int .i64 ok,.string (mkS ox),.string (mkS oe)],.bool false]) (by simp [results,Tryz.results113,go_sem,e0,e1,e2]) rfl ?_;exact ⟨⟨none,(by have h:=HI.o;rw [HPick.o] at h;exact h),⟨ok,ox,oe⟩,rfl⟩,by first | exact bel_drew HB6.o | exact HB6.o⟩)
 | some o =>
  cases o with
  | none=>exact absurd hl HNo.o
  | some tr =>
   have hti:=ParseP.lineOf_is hl;have hoi:=(ParseP.isT_parts hti).2.2;have HPick:Hid (byLine s = if shown tr.o = s then some tr.o else none):=Zz (by rw [HB.o,hl,pickT]);have hsmall:=ParseP.is_small hoi;have HSh:=Zz (fun W=>Show.show_calls tr.o (by omega) (by omega) W);have hbx:=fun p=>Print.box9 w2 tr p
   obtain ⟨S1,hS1⟩:∃ S1,S1 = shown tr.o:=⟨_,rfl⟩;rw [<- hS1] at HSh HPick;have hbel3:=bel_alloc (bR w2.heap.size w2) (.cells #[.int .i64 tr.s.kind,.string (mkS tr.s.text),.string (mkS tr.s.extra),.int .i64 tr.p.kind,.string (mkS tr.p.text),.string (mkS tr.p.extra),.int .i64 tr.o.kind,.string (mkS tr.o.text),.string (mkS tr.o.extra)] 36);obtain ⟨w3,hw3⟩:∃ w3,w3 = w2.alloc (.cells #[.int .i64 tr.s.kind,.string (mkS tr.s.text),.string (mkS tr.s.extra),.int .i64 tr.p.kind,.string (mkS tr.p.text),.string (mkS tr.p.extra),.int .i64 tr.o.kind,.string (mkS tr.o.text),.string (mkS tr.o.extra)] 36):=⟨_,rfl⟩;rw [<- hw3] at hbel3 hbx;have HWX:=Zz hw3.symm;have HB3:=Zz hbel3;have g6:=fun p:QT.Bel w3=>(hbx p).2.2.2.2.2.2.1
   have g7:=fun p:QT.Bel w3=>(hbx p).2.2.2.2.2.2.2.1
   have g8:=fun p:QT.Bel w3=>(hbx p).2.2.2.2.2.2.2.2
   have HShp:=Zz (fun p:QT.Bel w3=>HSh.o p.w);have tS:=mkS_toList S1;have ts:=mkS_toList s;have h4:=Cmp.beq_eq S1 s;have h5:(S1 == s) = decide (S1 = s):=by
    by_cases h:S1 = s
    ·
     subst h;simp
    ·
     simp [h]
   have HZ:Hid (∀ z,z = decide (S1 = s) -> (z = true -> byLine s = some tr.o)/\(z = false -> byLine s = none)):=Zz (fun z hz=>⟨fun h=>by rw [HPick.o,if_pos (of_decide_eq_true (hz.symm.trans h))],fun h=>by rw [HPick.o,if_neg (of_decide_eq_false (hz.symm.trans h))]⟩);obtain ⟨z,hz⟩:∃ z,z = decide (S1 = s):=⟨_,rfl⟩;have HZz:=Zz (HZ.o z hz);rw [<- hz] at h4 h5;clear hw3 hbel3 hbx hl hti hoi hsmall HSh HB HZ hz hS1 HPick hfit;unfold Ref5.oneV Ref5.tripleV;obtain ⟨⟨sk,sx,se⟩,⟨pk,px,pe⟩,⟨ok,ox,oe⟩⟩:=tr;unfold Ref5.termV at HShp;dsimp only at g6 g7 g8 HShp HWX HZz;dsimp only;go_upto_region 2 with fail
   rw [HWX.o];clear HWX;have HC3:Hid (∀ W,Below w3.heap.size w3 W -> W.cell? ⟨w.heap.size,0,none⟩ = some (.int .i64 0)/\W.cell? ⟨w.heap.size,1,none⟩ = some (.string ⟨#[]⟩)/\W.cell? ⟨w.heap.size,2,none⟩ = some (.string ⟨#[]⟩)/\∀ j,W.frozen? ⟨w.heap.size,j,none⟩ = false):=Zz (fun W hb=>HC0.o W (bel_step (bel_step HBa.o HB3.o) hb));have HS3:Hid (∀ W,Below w3.heap.size w3 W -> W.cell? ⟨w2.heap.size,6,none⟩ = some (.int .i64 ok)/\W.cell? ⟨w2.heap.size,7,none⟩ = some (.string (mkS ox))/\W.cell? ⟨w2.heap.size,8,none⟩ = some (.string (mkS oe))):=Zz (fun W hb=>⟨g6 ⟨W,hb⟩,g7 ⟨W,hb⟩,g8 ⟨W,hb⟩⟩);have HSc:=Zz (fun W (hb:Below w3.heap.size w3 W)=>HShp.o ⟨W,hb⟩);clear HShp g6 g7 g8;have hn1:∀ i j,(⟨w2.heap.size,i,none⟩:Addr) ≠ ⟨w.heap.size,j,none⟩:=fun i j e=>by injection e;omega
   have hn2:∀ i j,(⟨w.heap.size,j,none⟩:Addr) ≠ ⟨w2.heap.size,i,none⟩:=fun i j e=>by injection e;omega
   have hcur:=bR w3.heap.size w3;obtain ⟨k0,k1,k2,kf⟩:=HC3.o w3 hcur;have kf0:=kf 0;have kf1:=kf 1;have kf2:=kf 2;clear kf;go_region_held3 (fun W=>W.cell? ⟨w2.heap.size,6,none⟩ = some (Value.int .i64 ok)/\W.cell? ⟨w2.heap.size,7,none⟩ = some (Value.string (mkS ox))/\W.cell? ⟨w2.heap.size,8,none⟩ = some (Value.string (mkS oe)))
    (first | (obtain ⟨s6,s7,s8⟩:=HS3.o _ hcur;refine ⟨?_,?_,?_⟩;(iterate 3 (first | (refine (Zo _ _ _ _ (hn1 _ _)).trans ?_) | (refine (Zo _ _ _ _ (hn2 _ _)).trans ?_)));exact s6;(iterate 3 (first | (refine (Zo _ _ _ _ (hn1 _ _)).trans ?_) | (refine (Zo _ _ _ _ (hn2 _ _)).trans ?_)));exact s7;(iterate 3 (first | (refine (Zo _ _ _ _ (hn1 _ _)).trans ?_) | (refine (Zo _ _ _ _ (hn2 _ _)).trans ?_)));exact s8) | exact HS3.o _ (by repeat (first | assumption | exact bR _ _ | refine bel_drew ?_)))
    (first
     | (go_at_call 56;refine (HSc.o _ ?bl).mono ?_;go_loud (case bl=>repeat (first | assumption | exact bR _ _ | refine bel_drew ?_));rintro e w5 ⟨rfl,hbc⟩;have hcur:Below w3.heap.size w3 w5:=bel_step (by repeat (first | assumption | exact bR _ _ | refine bel_drew ?_)) hbc;obtain ⟨k0,k1,k2,kf⟩:=HC3.o w5 hcur;have kf0:=kf 0;have kf1:=kf 1;have kf2:=kf 2;clear kf)
     | fail)
   all_goals (
    have HB5:=Zz (bel_step HB2.o (bel_step HB3.o hcur));obtain ⟨w6,hw6⟩:∃ w6,w6 = ((w5.setCell ⟨w.heap.size,0,none⟩ (.int .i64 ok)).setCell ⟨w.heap.size,1,none⟩ (.string (mkS ox))).setCell ⟨w.heap.size,2,none⟩ (.string (mkS oe)):=⟨_,rfl⟩;have e0:w6.cell? ⟨w.heap.size,0,none⟩ = some (.int .i64 ok):=by
     rw [hw6,Zo _ _ _ _ (by simp),Zo _ _ _ _ (by simp)];exact World.cell?_setCell_same _ _ _ k0
    have e1:w6.cell? ⟨w.heap.size,1,none⟩ = some (.string (mkS ox)):=by
     rw [hw6,Zo _ _ _ _ (by simp)];exact World.cell?_setCell_same _ _ _ ((Zo _ _ _ _ (by simp)).trans k1)
    have e2:w6.cell? ⟨w.heap.size,2,none⟩ = some (.string (mkS oe)):=by
     rw [hw6];exact World.cell?_setCell_same _ _ _ ((Zo _ _ _ _ (by simp)).trans ((Zo _ _ _ _ (by simp)).trans k2))
    have HB6:Hid (Below w.heap.size w w6):=Zz (by rw [hw6];exact bel_set (bel_set (bel_set HB5.o (lR _) _) (lR _) _) (lR _) _);rw [<- hw6];clear hw6 k0 k1 k2 kf0 kf1 kf2 hcur;go_wp2;refine bodyPost_ret (v:=.tuple #[.agg #[.int .i64 ok,.string (mkS ox),.string (mkS oe)],.bool z]) (by simp [results,Tryz.results113,go_sem,e0,e1,e2]) rfl ?_;cases z with
    | false=>exact ⟨⟨none,(by have h:=HI.o;rw [HZz.o.2 rfl] at h;exact h),⟨ok,ox,oe⟩,rfl⟩,HB6.o⟩
    | true=>exact ⟨⟨some ⟨ok,ox,oe⟩,(by have h:=HI.o;rw [HZz.o.1 rfl] at h;exact h),rfl⟩,HB6.o⟩)
end ShownW
namespace TripW
open Go.RowKit Go.Lib Go.Shelf B Rd TermPure LinesPure Tri SortP OrdG Env StoreP StoreW FrontW TripP TripC ChunkW
def num3 (I:List Ids) (x:Fin I.length):Nat -> Nat
 | 0=>I[x.1].a
 | 1=>I[x.1].b
 | _=>I[x.1].c
theorem dict_below {w W:World} {g:Nat} {L:List (List UInt8)} (h:DictAt w (fun _=>True) g L) (hb:Below w.heap.size w W):DictAt W (fun _=>True) g L:=by
 obtain ⟨A',c',h1,h2⟩:=h;exact ⟨A',c',(hb.cell (p:=⟨g,0,none⟩) (cell_lt h1)).trans h1,strK.sl.mono (ok':=fun _=>True) (fun _ _ _=>trivial) (Kd.M_below (Kd.M_bound h2) hb)⟩
theorem trip_calls (L:List (List UInt8)) (I:List Ids) (hI:I.length <= 100) (hL:L.length <= 300) (hs:∀ x ∈ L,x.length <= 1000) (hn:∀ n ∈ nums I,n <= 1000000) (g:Nat) (A:Option Addr) (c:Nat) (w:World) (he:Env w) (hd:DictAt w (fun _=>True) g L) (HL:intK.sl.M w (fun _=>True) (natZ (nums I)) [.slice A (nums I).length c]) :
  Calls Tryz.prog 70 #[.pointer (some ⟨g,0,none⟩),.slice A (nums I).length c] w fun e w'=>((∃ v,(∀ T,Valid T -> ¬ Makes L I T)/\e = .returned (.tuple #[v,.bool false])) \/
   ∃ T A' c',Makes L I T/\Valid T/\e = .returned (.tuple #[.slice A' T.length c',.bool true])/\triK.sl.M w' (fun _=>True) T [.slice A' T.length c'])/\Below w.heap.size w w':=by
 have hlen:=nums_len I;have hmem:∀ (x:Fin I.length) j,j < 3 -> (nums I)[3 * x.1 + j]? = some (num3 I x j):=fun x j hj=>by
  obtain ⟨h1,h2,h3⟩:=RefTrip.nums_at I x.1 x.2;obtain rfl | rfl | rfl:j = 0 \/ j = 1 \/ j = 2:=by omega
  ·
   exact h1
  ·
   exact h2
  ·
   exact h3
 obtain ⟨b,off,hA,hcells⟩:∃ b off,(0 < I.length -> A = some ⟨b,off,none⟩)/\∀ (x:Fin I.length) j,j < 3 -> ∀ W,Below w.heap.size w W -> W.cell? ⟨b,off + 3 * x.1 + j,none⟩ = some (.int .i64 (num3 I x j:Nat)):=by
  by_cases hp:0 < I.length
  ·
   obtain ⟨b,off,hAe,_,hbs,hc⟩:=PackW.int_cells HL (by rw [hlen];omega);refine ⟨b,off,fun _=>hAe,fun x j hj W hW=>?_⟩;obtain ⟨h1,h2⟩:=List.getElem?_eq_some_iff.1 (hmem x j hj);have h3:=(hW.cell (p:=⟨b,off + (3 * x.1 + j),none⟩) hbs).trans (hc (3 * x.1 + j) h1);rw [h2] at h3;rw [show off + 3 * x.1 + j = off + (3 * x.1 + j) by omega];exact h3
  ·
   exact ⟨0,0,fun h=>absurd h hp,fun x=>absurd x.2 (by omega)⟩
 obtain ⟨A',c',hv,h1,h2,_⟩:=id HL;have hlz:(natZ (nums I)).length = (nums I).length:=by unfold natZ;simp
 have hcap:(nums I).length <= c/\c <= maxLen:=by
  have e:A = A'/\(nums I).length = (natZ (nums I)).length/\c = c':=by simpa using hv
  obtain ⟨_,_,rfl⟩:=e;rw [hlz] at h1;exact ⟨h1,h2.2⟩
 have HK:=trip_core (∀ T,Valid T -> ¬ Makes L I T) I.length (Part L I) (fun n t=>At1 L n t) (fun n=>TermIs (textOf L n) none) (textOf L) (fun x j=>if j < 3 then num3 I x j else 0) g (nums I).length c b off A w hA
  (by rw [hlen];omega) (by rw [hlen];omega) hI hcap.1 hcap.2 (Part.nil L I)
  (fun pre x T t0 t1 t2 hP h0 h1 h2=>hP.snoc (by simpa [num3] using h0) (by simpa [num3] using h1) (by simpa [num3] using h2))
  (fun pre T hP=>hP.len)
  (fun x j=>by
   by_cases hj:j < 3
   ·
    rw [if_pos hj];exact hn _ (List.mem_of_getElem? (hmem x j hj))
   ·
    rw [if_neg hj];omega)
  (fun n t h=>by have:=ParseP.is_small h.1;unfold FitsW;omega)
  (fun x j hj hB=>by
   rw [if_pos hj] at hB;intro T _;refine none_makes x.2 (n:=num3 I x j) ?_ hB T;obtain rfl | rfl | rfl:j = 0 \/ j = 1 \/ j = 2:=by omega
   ·
    exact .inl rfl
   ·
    exact .inr (.inl rfl)
   ·
    exact .inr (.inr rfl))
  (fun x j hj W hW=>by rw [if_pos hj];exact hcells x j hj W hW)
  (fun q hq W hW=>FrontW.extract_calls L q (by omega) (by omega) g W _ (dict_below hd hW))
  (fun q W hW=>(ShownW.shown_calls (textOf L q) (text_len hs q) W (he.below hW)).mono (by
   rintro e w' ⟨⟨r,hr,hm⟩,hb⟩;cases r with
   | none =>
    obtain ⟨t,ht⟩:=hm;exact ⟨.inr ⟨hr,t,ht⟩,hb⟩
   | some t=>exact ⟨.inl ⟨t,at1_of_text hr,hm⟩,hb⟩))
  (fun T hP A' c' W hW hM=>contains_calls T (by rw [hP.len];simp;omega) hP.is A' c' W (he.below hW) hM)
 refine HK.mono ?_;rintro e w' ⟨⟨hno,v,rfl⟩ | ⟨T,A',c',hP,rfl,hM⟩,hb⟩
 ·
  exact ⟨.inl ⟨v,hno,rfl⟩,hb⟩
 ·
  have hMk:=hP.makes;cases hv:T.all isTriple with
  | true=>exact ⟨.inr ⟨T,A',c',hMk,fun x hx=>List.all_eq_true.1 hv x hx,rfl,hM⟩,hb⟩
  | false=>exact ⟨.inl ⟨_,makes_all hMk hv,rfl⟩,hb⟩
end TripW
end Go.Proofs.YtnplommdgfgboaaGreatDoor
