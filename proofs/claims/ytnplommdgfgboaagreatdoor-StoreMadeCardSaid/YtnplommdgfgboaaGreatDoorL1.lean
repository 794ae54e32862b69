import Derived.Test.YtnplommdgfgboaaGreatDoorJ9
import Derived.Lib.EndianBits
set_option linter.unusedVariables false
set_option linter.unusedSimpArgs false
set_option maxHeartbeats 25600000
set_option maxRecDepth 100000
namespace Go
theorem dt (p:Prop) [Decidable p] (h:p:=by omega):decide p=true:=decide_eq_true h
theorem df (p:Prop) [Decidable p] (h:¬p:=by omega):decide p=false:=decide_eq_false h
theorem Zq {n m:Int} (h:n=m∧-9223372036854775808<=n∧n<=9223372036854775807:=by omega):IntKind.i64.wrap n=m:=by rw [IntKind.wrap_i64];omega
end Go
open Go.Proofs.Tryz
namespace Go.Proofs.YtnplommdgfgboaaGreatDoor
namespace B
open Go.RowKit
theorem mb {w W:World} {ok:Nat->Prop} {b:List UInt8} {v:Value} (h:byteK.sl.M w ok b [v]) (g:Below w.heap.size w W):byteK.sl.M W (fun _=>True) b [v]:=byteK.sl.mono (fun _ _ _=>trivial) (Kd.M_below (Kd.M_bound h) g)
theorem ms {α:Type} {d:Kd α} {e:TypeId} {w:World} {n:Nat} {ok:Nat->Prop} {v:Value} {x:List α} (h:d.own e w n ok v x):d.sl.M w (fun _=>True) x [v]:=Kd.own_sl h (fun _ _=>trivial) (fun _ _=>trivial)
end B
namespace Rd
open Go.RowKit B
theorem eq_mkS (s:ByteArray):s=mkS s.data.toList:=by cases s;simp [mkS]
end Rd
namespace Tri
open Go.RowKit Go.ChangeShapes Go.WideShapes Go.Deep B TermPure LinesPure Ref5
section
variable {P : Program} {t : TypeId}
theorem str_of {H:Type} {enc:TypeId×Value->H} {w:World} {fuel:Nat} {cs:List Value} {x:DataW H×List MemPlace} (ht:P.underlying t=some .string) (h:DataW.trod enc P w 0 (fun _=>true) true fuel t cs=some x)
  (hw:∀ n∈DataW.weights P t x.1,n<=reachBytes):∃ l:List UInt8,cs=[.string (mkS l)]/\l.length<=140737488355328:=by
 obtain ⟨s,rfl,rfl,_⟩:=DataW.trod_string ht h;refine ⟨s.data.toList,by rw [<- Rd.eq_mkS],?_⟩;have:=hw s.data.toList.length (by simp [DataW.weights]);simp only [reachBytes] at this;omega
end
end Tri
namespace BoxUnpack
open Go.RowKit CrcPure BoxPure B CrcWalk CrcLaws BoxWalk BoxPack BoxRef
def UnpackPost (b:List UInt8) (w:World) (e:Ending) (w':World):Prop:=
 Below w.heap.size w w'/\∃ r:Option (List Sec),Reads b r/\match r with
  | none=>e=.returned (.tuple #[.slice none 0 0,.int .i64 2])
  | some l=>∃ v,e=.returned (.tuple #[v,.int .i64 0])/\secK.own 82 w' w.heap.size (fun k=>w.heap.size<=k) v l
theorem info_sec:(Tryz.prog.info? 82).map (fun i=>(i.zero,i.size,i.bytes))=some (some (.agg #[.int .i64 0,.slice none 0 0]),2,32):=by kernel_rfl
theorem cellsB:Tryz.prog.cellsOf 5=1:=by kernel_rfl
theorem secs_step (n:Nat) (h b:List UInt8) (hb:num (h.drop 1)<=b.length):secs (n+1) h b=(secs n (h.drop 7) (b.drop (num (h.drop 1)))).map fun l=>(((h.getD 0 0).toNat:Int),b.take (num (h.drop 1)))::l:=by
 rw [secs,if_neg (by omega)]
theorem secs_stop (n:Nat) (h b:List UInt8) (hb:b.length<num (h.drop 1)):secs (n+1) h b=none:=by
 rw [secs,if_pos hb]
theorem own_any {e:TypeId} {w:World} {base:Nat} {ok ok':Nat->Prop} {v:Value} {xs:List UInt8} (h:byteK.own e w base ok v xs):byteK.own e w base ok' v xs:=by
 obtain ⟨h0,a_,h1,h2⟩:=h;exact ⟨h0,a_,h1,fun i x hx=>any_u8 _ _ _ _ _ (h2 i x hx)⟩
theorem sl_cut {w:World} {ok:Nat->Prop} {g o c j:Nat} {hs:List UInt8} (h1:hs.length<=c) (h2:hs.length<=140737488355328/\c<=maxLen) (gr:byteK.row w ok (some ⟨g,o,none⟩) hs) :
  byteK.sl.M w ok (hs.drop j) [.slice (some ⟨g,o+j,none⟩) (hs.length - j) (c - j)]:=by
 have:=Kd.u8_sl (l:=hs.drop j) (c:=c - j) (A:=some ⟨g,o+j,none⟩) (by simp;omega) (by simp;omega) (fun h=>by cases h) (by
  have:=Kd.row_drop gr j
  rwa [show (some (⟨g,o,none⟩:Addr)).map (·.add (j*byteK.sz))=some ⟨g,o+j,none⟩ from congrArg some ((Addr.add_lit g o (j*byteK.sz)).trans (by rw [show j*byteK.sz=j from Nat.mul_one j]))] at this)
 rwa [Zj] at this
theorem sec_row {w2 W':World} {u7 v2:Value} {body:List UInt8} {n:Int} {base wc:Nat} (HT:byteK.own 5 w2 wc T v2 body) (h0:base<=wc) (hlt:∀ k,u7.ownBlock=some k->k<wc)
  (hwc:wc<=w2.heap.size) (hid:0<=n/\n<=255) (hb:Below w2.heap.size w2 W') (hC:Kd.bi W' w2.heap.size #[.int .i64 n,v2]) :
  secK.sl.M W' (fun k=>base<=k/\some k ≠ u7.ownBlock) [(n,body)] [.slice (some ⟨w2.heap.size,0,none⟩) 1 1]:=by
 have hM:byteK.sl.M W' (fun k=>base<=k/\some k ≠ u7.ownBlock) body [v2]:=
  Kd.own_sl (Kd.own_below (own_any (ok':=fun _=>False) HT) hb) (fun k hk=>⟨by omega,fun e=>by have:=hlt k e.symm;omega⟩) (fun k hk=>hk.elim)
 have hR:secK.row W' (fun k=>base<=k/\some k ≠ u7.ownBlock) (some ⟨w2.heap.size,0,none⟩) [(n,body)]:=
  Kd.row_one (d:=secK) hC ⟨by omega,fun e=>by have:=hlt _ e.symm;omega⟩ (show secK.M W' _ (n,body) [.int .i64 n,v2] from ⟨[.int .i64 n],[v2],rfl,⟨rfl,by dsimp only;omega⟩,hM⟩)
 exact ⟨_,1,rfl,by simp,⟨by simp,by simp [maxLen]⟩,(fun h=>by cases h),hR⟩
theorem unpack_calls (b:List UInt8) (v:Value) (w:World) (m:byteK.sl.M w T b [v]) :
  Calls Tryz.prog 66 #[v] w (UnpackPost b w):=by
 obtain ⟨A,c,hv,h1,h2,h3,t_⟩:=m;simp at hv;subst hv;have HR:=Zz (Kd.row_mono (ok':=fun k=>k<w.heap.size) (fun k _ hk=>hk) t_);have HM:=Zz (Kd.u8_sl h1 h2 h3 t_);clear t_;obtain ⟨j_,b6⟩:=h2;have HC:=Zz b6;clear b6;by_cases c6:b.length<6
 .
  have q1:=dt ((b.length:Int)<6);have HN:=Zz (reads_short (b:=b) (.inl (by omega)));go_enter func66,ntmps66;go_wp2;go_ret2;exact ⟨bR _ _,none,HN.o,rfl⟩
 .
  have q1:=df ((b.length:Int)<6);obtain ⟨ba,k_,rfl,a_⟩:=u8_plain HR.o (by omega);have c5:=a_ 5 (by omega);have HG:Hid (b.getD 5 0=b[5]):=Zz (getD_at b 5 (by omega));have d0:=b[5].toNat_lt;clear a_;have i5:(5:Int)<(b.length:Int):=by omega
  generalize hbn:b[5]=bn at *;clear hbn;by_cases cl:b.length<9+7*bn.toNat
  .
   have q2:=dt ((b.length:Int)<6+7*(bn.toNat:Int)+3);have HN:=Zz (reads_short (b:=b) (.inr (.inl (by rw [HG.o];exact cl))));go_enter func66,ntmps66;go_wp2;go_ret2;exact ⟨bR _ _,none,HN.o,rfl⟩
  .
   have q2:=df ((b.length:Int)<6+7*(bn.toNat:Int)+3);generalize hnn:bn.toNat=n at *;obtain ⟨A1,-,n_,-,f_⟩:=Kd.cut_run (P:=Tryz.prog) byteK 55 5 underlying55 cellsB (.int .u8 0) 1 info_u8 (some ⟨ba,k_,none⟩) b.length c 6 b.length (by omega) (lR _) h1 ⟨j_,HC.o⟩ h3;obtain ⟨A2,-,i_,-,e_⟩:=Kd.cut_run (P:=Tryz.prog) byteK 55 5 underlying55 cellsB (.int .u8 0) 1 info_u8 (some ⟨ba,k_,none⟩) b.length c (9+7*n) b.length (by omega) (lR _) h1 ⟨j_,HC.o⟩ h3;have b8:∀ (kl:IntKind) (w:World),(Instr.slice 55 (.slice (some ⟨ba,k_,none⟩) b.length c) (some (.int kl 6)) none none).run Tryz.prog w=.ok (.slice A1 (b.length - 6) (c - 6)) w:=fun kl w=>n_ kl w rfl
   have c0:∀ (kl:IntKind) (w:World),(Instr.slice 55 (.slice (some ⟨ba,k_,none⟩) b.length c) (some (.int kl (6+7*(n:Int)+3))) none none).run Tryz.prog w=.ok (.slice A2 (b.length - (9+7*n)) (c - (9+7*n))) w:=fun kl w=>by
    have:=i_ kl w rfl;rw [show ((9+7*n:Nat):Int)=6+7*(n:Int)+3 by omega] at this;exact this
   have u_:=Zz (f_ w _ b rfl HR.o);have q_:=Zz (e_ w _ b rfl HR.o);clear n_ i_ f_ e_;have ww:IntKind.i64.wrap (7*(n:Int))=7*(n:Int):=Zq
   have d7:IntKind.i64.wrap (6+7*(n:Int))=6+7*(n:Int):=Zq
   have e0:IntKind.i64.wrap (6+7*(n:Int)+3)=6+7*(n:Int)+3:=Zq
   go_enter func66,ntmps66;go_upto_region 6 with fail
   go_quiet (fail);go_wp2_with fail;have b7:=Zz (bel_drewN (bR w.heap.size w) nq);have a8:Hid (secs n (b.drop 6) (b.drop (9+7*n))=(secs (n - 0) (b.drop 6) (b.drop (9+7*n))).map ([] ++ ·)):=by
    refine Zz ?_;simp
   have b2:7*(n - 0)+3<=(b.drop 6).length:=by simp;omega
   have a7:(b.drop (9+7*n)).length<=140737488355328:=by simp;omega
   rw [List.take_length] at u_ q_;rw [show b.length - 6=(b.drop 6).length by simp] at *;rw [show b.length - (9+7*n)=(b.drop (9+7*n)).length by simp] at *;have c_:Hid (parse b=secs n (b.drop 6) (b.drop (9+7*n))):=by
    refine Zz ?_;unfold parse;rw [HG.o,hnn]
   have b5:n<=255:=by omega
   clear b8 c0 ww d7 e0 q1 q2 c5 i5 hnn HG d0 c6 cl;generalize c - 6=c1 at *;generalize c - (9+7*n)=c2 at *;generalize hH:b.drop 6=H0 at *;generalize hB:b.drop (9+7*n)=B0 at *;clear hH hB;go_loopw [5,6,7,34] (fun v5 v6 v7 vi wr=>∃ (k:Nat) (hs bs:List UInt8) (ls:List Sec),k<=n/\vi=.int .i64 k/\Hid (byteK.sl.M w (fun k=>k<w.heap.size) hs [v5])/\Hid (byteK.sl.M w (fun k=>k<w.heap.size) bs [v6]) /\
    7*(n - k)+3<=hs.length/\bs.length<=140737488355328/\Hid (secs n H0 B0=(secs (n - k) hs bs).map (ls ++ ·))/\ls.length=k/\Hid (secK.own 82 wr w.heap.size (fun k=>w.heap.size<=k) v7 ls)/\Hid (Below w.heap.size w wr)) (fun _ _ _ vi _=>n - (intOf vi).toNat)
   case atStart=>exact ⟨0,H0,B0,[],by omega,rfl,u_,q_,b2,a7,a8,rfl,Zz (Kd.own_nil _ _ _ _ _),b7⟩
   case round =>
    clear u_ q_ b2 a7 a8 b7 nq;obtain ⟨k,hs,bs,ls,hk,rfl,a6,d5,f3,f4,HI,f2,HO,HB⟩:=hrel;by_cases hlt:k<n
    .
     obtain ⟨Ah,ch,hv,g1,g2,g3,gr⟩:=a6.o;simp at hv;subst hv;obtain ⟨Ab,cb,hv,e1,e2,e3,er⟩:=d5.o;simp at hv;subst hv;have d3:=dt ((k:Int)<(n:Int));obtain ⟨m,hm⟩:∃ m,n - k=m+1:=⟨n - k - 1,by omega⟩;rw [hm] at HI;obtain ⟨gh,oh,rfl,a_⟩:=u8_plain gr (by omega);have z_:=a_ 0 (by omega);clear a_;rw [Nat.add_zero] at z_;have b3:=Zz (getD_at hs 0 (by omega));have b0:=Zz (sl_cut (j:=1) g1 g2 gr);have d8:=Zz (sl_cut (j:=7) g1 g2 gr);have f1:0<hs.length:=by omega
     have c8:7*(n - (k+1))+3<=(hs.drop 7).length:=by simp;omega
     have a1:=fun (wx:World) (h:Below w.heap.size w wx)=>number_calls (hs.drop 1) (by simp;omega) _ _ wx (byteK.sl.M_old b0.o h)
     clear gr a6 b0;go_wp2_with fail;refine (a1 _ HB.o).mono ?_;rintro e wn ⟨rfl,nq,rfl⟩;clear a1;have d6:=num_lt (hs.drop 1);have b4:=Zz (secs_step m hs bs);have a3:=Zz (secs_stop m hs bs);generalize num (hs.drop 1)=sz at *;by_cases hsz:bs.length<sz
     .
      have hd:decide (bs.length<sz)=true:=dT hsz;have HN:Hid (Reads b none):=Zz (reads_of_parse_none (by rw [c_.o,HI.o,a3.o hsz];rfl));go_wp2_with fail;go_ret2;exact ⟨bel_drewN HB.o _,none,HN.o,rfl⟩
     .
      have hd:decide (bs.length<sz)=false:=dF hsz;have e9:=hs[0].toNat_lt;have p_:=Zz (b4.o (by omega));rw [b3.o] at p_;have d4:(bs.take sz).length=sz:=by simp;omega
      obtain ⟨c3,-,-,m_,g_⟩:=Kd.cut_run (P:=Tryz.prog) byteK 55 5 underlying55 cellsB (.int .u8 0) 1 info_u8 Ab bs.length cb 0 sz (by omega) (by omega) e1 e2 e3;have c4:=fun (kl:IntKind) (w:World)=>m_ kl w rfl
      have v_:=Zz (g_ w _ bs rfl er);obtain ⟨f0,-,l_,-,d_⟩:=Kd.cut_run (P:=Tryz.prog) byteK 55 5 underlying55 cellsB (.int .u8 0) 1 info_u8 Ab bs.length cb sz bs.length (by omega) (lR _) e1 e2 e3;have c7:=fun (kl:IntKind) (w:World)=>l_ kl w rfl
      have y_:=Zz (d_ w _ bs rfl er);rw [List.take_length] at y_;rw [List.drop_zero] at v_;simp only [Nat.sub_zero] at c4 v_;rw [show bs.length - sz=(bs.drop sz).length by simp] at c7 y_;have e6:(bs.drop sz).length<=140737488355328:=by simp;omega
      have b9:Hid (secs n H0 B0=(secs m (hs.drop 7) (bs.drop sz)).map ((ls++[((hs[0].toNat:Int),bs.take sz)]) ++ ·)):=by
       refine Zz ?_;rw [HI.o,p_.o,Option.map_map];congr 1;funext q;simp
      clear m_ g_ l_ d_ b4 a3 p_ HI b3 er;generalize cb - sz=cr at *;generalize bs.drop sz=rest at *;generalize bs.take sz=body at *;subst d4;generalize hs.drop 7=hs7 at *;generalize hs[0]=x0 at *;have a0:Hid (secK.own 82 (wr.drewN nq) w.heap.size (fun k=>w.heap.size<=k) u7 ls):=Zz (Kd.own_move (w:=wr) (w1:=wr.drewN nq) (fun _ _ _=>rfl) HO.o);have a5:=Zz (bel_drewN HB.o nq);generalize wr.drewN nq=wy at *;clear HO HB;go_wp2_with fail;go_cut [7] (fun v7 wx=>Hid (secK.own 82 wx w.heap.size (fun k=>w.heap.size<=k) v7 (ls++[((x0.toNat:Int),body)]))/\Hid (Below w.heap.size w wx))
      case first =>
       have hB:=a5.o;have wx:IntKind.i64.wrap (x0.toNat:Int)=(x0.toNat:Int):=Zq
       have h_:Hid (∀ W,Below w.heap.size w W->Calls Tryz.prog 110 #[.slice c3 body.length cb] W (NewBytes body W)):=
        Zz (fun W h=>clone_calls body _ W (byteK.sl.mono (fun _ _ _=>trivial) (byteK.sl.M_old v_.o h)))
       go_region_held3 (fun w'=>w'.cell? ⟨gh,oh,none⟩=some (.int .u8 (x0.toNat:Int)))
        (exact cell_same z_ ((show Below w.heap.size w _ by (repeat (first | assumption | refine bel_alloc ?_ _ | refine bel_drew ?_))).block _ (cell_lt z_)))
        (first
         | (go_at_call 110;go_loud (refine (h_.o _ (by (repeat (first | exact hB | refine bel_drew ?_)))).mono ?_);rintro e w2 ⟨v2,rfl,r_,s_⟩;obtain ⟨A9,c9,rfl,_,_⟩:=Kd.own_slice r_;have HT:=Zz r_;have e4:Below w.heap.size w w2:=bel_step (by (repeat (first | exact hB | refine bel_drew ?_))) s_;have d1:Hid (secK.own 82 w2 w.heap.size (fun k=>w.heap.size<=k) u7 ls):=Zz (Kd.own_below (by (repeat (first | exact a0.o | refine Kd.own_drew ?_))) s_);clear r_)
         | (refine Kd.own_app_step secK (w0:=w) w.heap.size (by rfl) (.tmp 43) (.tmp 53) 84 82 (.agg #[.int .i64 0,.slice none 0 0]) 32 (by rfl) underlying84 info_sec rfl (by decide) u7 ls [((x0.toNat:Int),body)] (some ⟨w2.heap.size,0,none⟩) 1 (fun k=>w.heap.size<=k) (by rfl) (by rfl) ?ho (.inl ?hr) ?hb ?hs ?hl ?_;go_loud (case hl=>simp;omega);go_loud (case ho=>repeat (first | exact d1.o | refine Kd.own_alloc ?_ _ | refine Kd.own_drew ?_));go_loud (case hr=>exact sec_row HT.o hB.size (fun k hk=>(Kd.own_lt a0.o k hk).2) s_.size ⟨by omega,by omega⟩ (by (repeat (first | exact bR _ _ | refine bel_alloc ?_ _ | refine bel_drew ?_))) (by repeat (first | exact Kd.bi_new (by simp) | refine Kd.bi_old ?_ | refine Kd.bi_drew ?_)));go_loud (case hb=>repeat (first | assumption | refine bel_alloc ?_ _ | refine bel_drew ?_));go_loud (case hs=>have:=e4.size;simp;omega);intro v4 w4 ho4 hb4 hg4 hv4;have e5:=Zz ho4;clear ho4 hg4 hv4)
         | fail)
       go_wp2_with fail;go_meet;exact ⟨e5,Zz hb4⟩
      case rest =>
       clear a0 a5;obtain ⟨HO,HB⟩:=hcut;go_upto_region 14 with fail
       go_quiet (fail);go_wp2_with fail;go_roundw
       case rel=>exact ⟨k+1,hs7,rest,ls++[((x0.toNat:Int),body)],by omega,by go_num,d8,y_,c8,e6,Zz (by rw [b9.o,show n - (k+1)=m by omega]),by simp;omega,Zz (Kd.own_move (w:=wc) (fun _ _ _=>rfl) HO.o),Zz (bel_drewN HB.o _)⟩
       case measure=>simp [intOf];omega
    .
     obtain rfl:k=n:=by omega
     have d3:decide ((k:Int)<(k:Int))=false:=by simp
     have e7:Hid (parse b=some ls):=Zz (by rw [c_.o,HI.o,Nat.sub_self];simp [secs]);have b1:=Zz (reads_of_parse e7.o);have a4:Hid (secK.sl.M wr T ls [u7]):=Zz (Kd.own_sl HO.o (fun _ _=>trivial) (fun _ _=>trivial));have a9:=Zz (pack_calls ls u7 wr a4.o);go_wp2_with fail;refine a9.o.mono ?_;clear a9 a4;rintro e w1 ⟨w_,d9⟩;have o_:=Zz (bel_step HB.o w_);have e8:=Zz (Kd.own_below HO.o w_);rcases d9 with ⟨hMay,vp,rfl,hop⟩ | ⟨hMay,rfl⟩
     .
      have a2:=Zz hop;clear hop w_;have x_:=Zz hMay;clear hMay;have b_:Hid (Reads b (if file ls=b then some ls else none)):=Zz (by
       have:=b1.o;by_cases hf:file ls=b
       .
        rw [if_pos ⟨x_.o,hf⟩] at this;rw [if_pos hf];exact this
       .
        rw [if_neg (fun h=>hf h.2)] at this;rw [if_neg hf];exact this)
      generalize file ls=fl at *;have d2:=Zz (fun (W:World) (h:Below w1.heap.size w1 W)=>equal_calls fl b vp (.slice (some ⟨ba,k_,none⟩) b.length c) T T W (Kd.own_sl (Kd.own_below a2.o h) (fun _ _=>trivial) (fun _ _=>trivial)) (Kd.M_below HM.o (bel_step o_.o h)));obtain ⟨Ap,cp,rfl,_,_⟩:=Kd.own_slice a2.o;go_wp2_with fail;refine (d2.o _ (bR _ _)).mono ?_;rintro e w2 ⟨rfl,rfl⟩;by_cases hf:fl=b
      .
       have hd:(fl==b)=true:=by simp [hf]
       rw [if_pos hf] at b_;rw [hd];go_wp2_with fail;go_ret2;exact ⟨o_.o,some ls,b_.o,_,rfl,e8.o⟩
      .
       have hd:(fl==b)=false:=by simp [hf]
       rw [if_neg hf] at b_;rw [hd];go_wp2_with fail;go_ret2;exact ⟨o_.o,none,b_.o,rfl⟩
     .
      have b_:Hid (Reads b none):=Zz (by
       have:=b1.o
       rwa [if_neg (fun h=>hMay h.1)] at this)
      go_wp2_with fail;go_ret2;exact ⟨o_.o,none,b_.o,rfl⟩
end BoxUnpack
namespace SecTwo
open Go.RowKit Go.Lib B BoxPure BoxWalk BoxPack
theorem sec_at {w:World} {ok:Nat->Prop} {l:List Sec} {A:Option Addr} {c:Nat} (h:secK.sl.M w ok l [.slice A l.length c]) (hp:0<l.length) :
  ∃ b off,A=some ⟨b,off,none⟩/\b<w.heap.size/\∀ i (hi:i<l.length),∃ Ai ci,w.cell? ⟨b,off+i*2+1,none⟩=some (.slice Ai l[i].2.length ci)/\byteK.sl.M w ok l[i].2 [.slice Ai l[i].2.length ci]:=by
 obtain ⟨A',c',he,f_,_,hA,c_⟩:=h;obtain ⟨rfl,rfl⟩:A=A'/\c=c':=by simpa using he
 obtain ⟨b,off,e_,_,hb,a_⟩:=Kd.row_addr c_ hp;refine ⟨b,off,e_,hb,fun i hi=>?_⟩;obtain ⟨cs,hM,b_⟩:=a_ i hi;obtain ⟨a1,a2,rfl,h1,h2⟩:=hM;obtain ⟨Ai,ci,hv,_⟩:=id h2;obtain ⟨d_,_⟩:=h1;subst d_;subst hv;refine ⟨Ai,ci,?_,h2⟩;have:=b_ 1 (.slice Ai l[i].2.length ci) (by rfl);exact this
end SecTwo
namespace FrontW
open Go.RowKit Go.Lib B Rd StoreW Clones FrontP
def GoodF (l:List (List UInt8)) (i:Nat):Prop:=∀ (h:i<l.length),l[i] ≠ []/\l[i].length<=250/\∀ (h':0<i),l[i - 1]<l[i]
theorem may_good {l:List (List UInt8)} (h3:l.length<=300) (h:∀ i,i<l.length->GoodF l i):MayF l:=by
 refine ⟨h3,fun x hx=>?_,?_⟩
 .
  obtain ⟨i,hi,rfl⟩:=List.getElem_of_mem hx;have:=h i hi hi;exact ⟨this.1,this.2.1⟩
 .
  rw [List.pairwise_iff_getElem];intro i j hi hj hij;have a_:∀ d (hd:i+d+1<l.length),l[i]<l[i+d+1]:=by
   intro d
   induction d with
   | zero=>exact fun hd=>(h (i+0+1) hd hd).2.2 (by omega)
   | succ d ih =>
    intro hd;have h1:=ih (by omega);have h2:=(h (i+(d+1)+1) hd hd).2.2 (by omega);have e:i+(d+1)+1 - 1=i+d+1:=by omega
    simp only [e] at h2;exact List.lt_trans h1 h2
  have:=a_ (j - i - 1) (by omega);have e:i+(j - i - 1)+1=j:=by omega
  simp only [e] at this;exact this
theorem new_bad (l:List (List UInt8)) (hl:l.length<=140737488355328) (hs:∀ x∈l,x.length<=140737488355328) (hn:¬ MayF l) (A:Option Addr) (c:Nat) (w:World) (HL:strK.sl.M w (fun _=>True) (strs l) [.slice A l.length c]) :
  Calls Tryz.prog 57 #[.slice A l.length c] w fun e w'=>e=.returned (.tuple #[.pointer none,.int .i64 1])/\Below w.heap.size w w':=by
 have i_:=Zz (fun hp=>str_cells HL hp);have HS:=Zz hs;have HN:=Zz hn;clear hs hn HL;go_enter func57,ntmps57;by_cases h3:300<l.length
 .
  have f_:=dt ((300:Int)<(l.length:Int));go_wp2;go_ret2;exact ⟨rfl,bR _ _⟩
 have f_:=df ((300:Int)<(l.length:Int));have o_:=Zz (fun h=>HN.o (may_good (l:=l) (by omega) h));go_wp2;go_loopw [11] (fun vk wr=>∃ k:Nat,vk=.int .i64 k/\k<=l.length/\w=wr/\Hid (∀ i,i<k->GoodF l i)) (fun vk _=>l.length - (intOf vk).toNat)
 case atStart=>exact ⟨0,rfl,by omega,rfl,Zz (fun i h=>by omega)⟩
 case round =>
  obtain ⟨k,rfl,hk,rfl,HG⟩:=hrel;by_cases hlt:k<l.length
  .
   have hd:=dt ((k:Int)<(l.length:Int));have t_:decide (k<l.length)=true:=dT hlt;have ik:(k:Int)<(l.length:Int):=by omega
   obtain ⟨b,s_,rfl,_,q_,a_⟩:=i_.o (by omega);have k_:=a_ k hlt;obtain ⟨x,hx⟩:∃ x,x=l[k]:=⟨_,rfl⟩;rw [<- hx] at k_;have d_:=HS.o x (by rw [hx];exact Zm hlt);have zx:=mkS_size x;have tx:=mkS_toList x;have HX:=Zz hx;clear hx;by_cases hem:x=[]
   .
    have h_:x.isEmpty=true:=by rw [hem];rfl
    have e_:(x==[])=true:=by rw [hem];rfl
    have p_:x.length=0:=by rw [hem];rfl
    clear hem a_;go_wp2;go_ret2;exact ⟨rfl,bR _ _⟩
   have h_:x.isEmpty=false:=by cases x with
    | nil=>exact absurd rfl hem
    | cons a x=>rfl
   have e_:(x==[])=false:=by simpa using hem
   by_cases hbig:250<x.length
   .
    have g_:=dt ((250:Int)<(x.length:Int));clear hem a_;go_wp2;go_ret2;exact ⟨rfl,bR _ _⟩
   have g_:=df ((250:Int)<(x.length:Int));have l_:=Zz hem;clear hem;by_cases h0:k=0
   .
    subst h0;have j_:Hid (∀ i,i<1->GoodF l i):=Zz (fun i hi h=>by
     have:i=0:=by omega
     subst this;rw [<- HX.o];exact ⟨l_.o,by omega,fun h'=>absurd h' (Nat.lt_irrefl 0)⟩)
    clear a_ d_;simp only [Nat.add_zero] at k_;go_wp2;go_roundw
    case rel=>exact ⟨1,by go_num,by omega,trivial,j_⟩
    case measure=>simp [intOf];omega
   .
    have v_:=dt ((0:Int)<(k:Int));obtain ⟨j,hj⟩:∃ j,j=k - 1:=⟨_,rfl⟩;have r_:IntKind.i64.wrap ((k:Int) - 1)=(j:Int):=Zq
    have ij:(j:Int)<(l.length:Int):=by omega
    have n_:j<l.length:=by omega
    have m_:=a_ j n_;obtain ⟨y,hy⟩:∃ y,y=l[j]:=⟨_,rfl⟩;rw [<- hy] at m_;have ty:=mkS_toList y;have HY:=Zz hy;have HJ:=Zz hj;clear hy hj a_;by_cases hyx:y<x
    .
     have c_:Op.bytesLess (mkS y).toList (mkS x).toList=true:=by rw [Cmp.less_eq];exact dT hyx
     have b_:Op.bytesLess y x=true:=by rw [Go.Proofs.bytesLess_eq];exact dT hyx
     have j_:Hid (∀ i,i<k+1->GoodF l i):=Zz (fun i hi=>by
      by_cases hik:i<k
      .
       exact HG.o i hik
      .
       have:i=k:=by omega
       subst this;intro h;refine ⟨by rw [<- HX.o];exact l_.o,by rw [<- HX.o];omega,fun h'=>?_⟩;have e:l[i - 1]=l[j]:=by congr 1;exact HJ.o.symm
       rw [<- HX.o,e,<- HY.o];exact hyx)
     have u_:=Zz hyx;clear hyx d_;go_wp2;go_roundw
     case rel=>exact ⟨k+1,by go_num,by omega,trivial,j_⟩
     case measure=>simp [intOf];omega
    .
     have c_:Op.bytesLess (mkS y).toList (mkS x).toList=false:=by rw [Cmp.less_eq];exact dF hyx
     have b_:Op.bytesLess y x=false:=by rw [Go.Proofs.bytesLess_eq];exact dF hyx
     clear hyx d_;go_wp2;go_ret2;exact ⟨rfl,bR _ _⟩
  .
   exact (o_.o (fun i hi=>HG.o i (by omega))).elim
end FrontW
namespace BytesEq
open Go.RowKit Go.Lib B Rd
theorem conv_bytes {w:World} {l:List UInt8} {A:Option Addr} {c:Nat} {ok:Nat->Prop} (h:byteK.sl.M w ok l [.slice A l.length c]):(convert 55 9 (.slice A l.length c)).run Tryz.prog w=.ok (.string (mkS l)) w:=by
 obtain ⟨A',c',he,_,_,_,hr⟩:=h;obtain ⟨rfl,rfl⟩:A=A'/\c=c':=by simpa using he
 exact conv_string (P:=Tryz.prog) underlying55 underlying5 underlying9 hr
theorem equal_calls (x y:List UInt8) (A B:Option Addr) (c d:Nat) (ok:Nat->Prop) (w:World) (hx:byteK.sl.M w ok x [.slice A x.length c]) (hy:byteK.sl.M w ok y [.slice B y.length d]) :
  Calls Tryz.prog 72 #[.slice A x.length c,.slice B y.length d] w fun e w'=>e=.returned (.bool (decide (x=y)))/\w=w':=by
 have h1:=conv_bytes hx;have h2:=conv_bytes hy;have h3:=Cmp.beq_eq x y;have tx:=mkS_toList x;have ty:=mkS_toList y;have h4:(x==y)=decide (x=y):=by
  by_cases h:x=y
  .
   subst h;simp
  .
   simp [h]
 generalize decide (x=y)=r at *;clear hx hy;go_enter func72,ntmps72;go_wp2;go_ret;exact ⟨rfl,rfl⟩
end BytesEq
namespace FrontW
open Go.RowKit Go.Lib B Rd StoreW Clones FrontP BoxWalk BoxUnpack
theorem readN_two {n:Nat} {last:List UInt8} {r0 r1:UInt8} {rest:List UInt8} (h0:r0.toNat<=last.length) (h1:r1.toNat<=rest.length) :
  readN (n+1) last (r0::r1::rest)=(readN n (last.take r0.toNat++rest.take r1.toNat) (rest.drop r1.toNat)).map fun l=>(last.take r0.toNat++rest.take r1.toNat)::l:=by
 rw [readN,if_pos ⟨h0,h1⟩]
theorem readN_no {n:Nat} {last:List UInt8} {r0 r1:UInt8} {rest:List UInt8} (h:¬ (r0.toNat<=last.length/\r1.toNat<=rest.length)):readN (n+1) last (r0::r1::rest)=none:=by
 rw [readN,if_neg h]
theorem readN_short {n:Nat} {last rs:List UInt8} (h:rs.length<2):readN (n+1) last rs=none:=by
 match rs,h with
 | [],_=>rfl
 | [a],_=>rfl
theorem one_strs (W:World) (X:List UInt8) (h:X.length<=140737488355328):strK.sl.M (W.alloc (.cells #[.string (mkS X)] 9)) (fun _=>True) [mkS X] [.slice (some ⟨W.heap.size,0,none⟩) 1 1]:=by
 have z:=mkS_size X;refine ⟨some ⟨W.heap.size,0,none⟩,1,rfl,lR _,⟨by simp,by unfold maxLen;omega⟩,fun h=>(by cases h),fun i x hx=>?_⟩
 match i with
 | 0 =>
  simp at hx;subst hx;refine ⟨_,[.string (mkS X)],rfl,trivial,⟨rfl,by show (mkS X).size<=_;rw [z];omega⟩,fun j u hu=>?_⟩;rw [add_plain,World.cell?,Kd.heap_new]
  match j with
  | 0=>simp at hu;subst hu;rfl
  | j+1=>simp at hu
 | i+1=>simp at hx
theorem strs_add (l:List (List UInt8)) (x:List UInt8):strs l++[mkS x]=strs (l++[x]):=by simp [strs]
def RdPost (b:List UInt8) (w:World) (e:Ending) (w':World):Prop:=
 (∃ r,ReadsF b r/\match r with
  | none=>e=.returned (.tuple #[.pointer none,.int .i64 2])
  | some L=>∃ g,e=.returned (.tuple #[.pointer (some ⟨g,0,none⟩),.int .i64 0])/\DictAt w' (fun _=>True) g L)/\Below w.heap.size w w'
theorem read_calls (b:List UInt8) (hb:b.length<=100000) (A:Option Addr) (c:Nat) (w:World) (HL:byteK.sl.M w (fun _=>True) b [.slice A b.length c]) :
  Calls Tryz.prog 67 #[.slice A b.length c] w (RdPost b w):=by
 have HM:=Zz (Kd.M_bound HL);obtain ⟨A',c',hv,h1,h2,h3,c1⟩:=HL;obtain ⟨rfl,rfl⟩:A=A'/\c=c':=by simpa using hv
 have HR:=Zz (Kd.row_mono (ok':=fun k=>k<w.heap.size) (fun k _ hk=>hk) c1);clear c1;by_cases c2:b.length<2
 .
  have q1:=dt ((b.length:Int)<2);have HN:=Zz (readsF_fail (b:=b) (by unfold parseF;rw [if_pos c2]));go_enter func67,ntmps67;go_wp2;go_ret2;exact ⟨⟨none,HN.o,rfl⟩,bR _ _⟩
 have q1:=df ((b.length:Int)<2);obtain ⟨ba,d2,rfl,a_⟩:=u8_plain HR.o (by omega);have d8:=a_ 0 (by omega);have f4:=a_ 1 (by omega);rw [Nat.add_zero] at d8;obtain ⟨n,hn⟩:∃ n,n=countF b:=⟨_,rfl⟩;have b_:Hid (parseF b=readN n [] (b.drop 2)):=Zz (by unfold parseF;rw [if_neg c2,hn]);have c0:(b[0].toNat:Int)*256+(b[1].toNat:Int)=(n:Int):=by
  rw [hn];unfold countF;rw [List.getD_eq_getElem?_getD,List.getD_eq_getElem?_getD,Zg (by omega),Zg (by omega)];simp
 have l0:=b[0].toNat_lt;have l1:=b[1].toNat_lt;obtain ⟨p0,d3⟩:∃ p0,p0=b[0].toNat:=⟨_,rfl⟩;obtain ⟨p1,b7⟩:∃ p1,p1=b[1].toNat:=⟨_,rfl⟩;rw [<- d3] at d8 c0 l0;rw [<- b7] at f4 c0 l1;have i0:(0:Int)<(b.length:Int):=by omega
 have i1:(1:Int)<(b.length:Int):=by omega
 have i8:IntKind.i64.wrap ((p0:Int)*256)=(p0:Int)*256:=Zq
 have i2:IntKind.i64.wrap ((p0:Int)*256+(p1:Int))=(n:Int):=Zq
 have h8:n<=65535:=by omega
 obtain ⟨A1,-,s_,-,e_⟩:=Kd.cut_run (P:=Tryz.prog) byteK 55 5 underlying55 cellsB (.int .u8 0) 1 PackW.info_u8 (some ⟨ba,d2,none⟩) b.length c 2 b.length (by omega) (lR _) h1 h2 h3;have e6:∀ (kl:IntKind) (w:World),(Instr.slice 55 (.slice (some ⟨ba,d2,none⟩) b.length c) (some (.int kl 2)) none none).run Tryz.prog w=.ok (.slice A1 (b.length - 2) (c - 2)) w:=fun kl w=>s_ kl w rfl
 have o_:=Zz (e_ w _ b rfl HR.o);rw [List.take_length] at o_;clear s_ e_ a_ hn d3 b7;obtain ⟨R0,y_⟩:∃ R0,R0=b.drop 2:=⟨_,rfl⟩;have f6:R0.length<=100000:=by rw [y_];simp;omega
 rw [<- y_] at b_ o_;clear y_;go_enter func67,ntmps67;go_upto_region 4 with fail
 go_quiet (fail);go_upto_region 5 with fail
 go_quiet (fail);have f1:Hid (strK.own 9 w w.heap.size TT (.slice none 0 0) (strs [])):=Zz (Kd.own_nil _ _ _ _ _);have c7:Hid (readN n [] R0=(readN (n - 0) [] R0).map (([]:List (List UInt8)) ++ ·)):=Zz (by
  cases h:readN n [] R0 <;> simp [h])
 have g9:(⟨#[]⟩:ByteArray)=mkS []:=rfl;go_wp2;go_loopw [4,5,6,25] (fun v4 v5 v6 vk wr=>∃ (k:Nat) (last rs:List UInt8) (ls:List (List UInt8)),vk=.int .i64 k/\k<=n/\v5=.string (mkS last)/\last.length<=510/\ls.length=k/\2*k+rs.length<=100000/\Hid (byteK.sl.M w (fun k=>k<w.heap.size) rs [v6])/\Hid (readN n [] R0=(readN (n - k) last rs).map (ls ++ ·))/\Hid (∀ x∈ls,x.length<=510)/\Hid (strK.own 9 wr w.heap.size TT v4 (strs ls))/\Hid (Below w.heap.size w wr)) (fun _ _ _ vk _=>n - (intOf vk).toNat)
 case atStart=>exact ⟨0,[],R0,[],rfl,by omega,rfl,by simp,rfl,by omega,by first | exact o_ | (have h:=o_.o;simp at h;exact Zz h),c7,Zz (fun x hx=>by cases hx),Zz (Kd.own_nil _ _ _ _ _),Zz (by repeat (first | exact bR _ _ | refine bel_drewN ?_ _ | refine bel_drew ?_))⟩
 case round =>
  obtain ⟨k,last,rs,ls,rfl,hk,rfl,d1,w_,c5,c6,HI,c3,HO,HB⟩:=hrel;clear o_ f1 c7 e6;by_cases hlt:k<n
  .
   have hd:=dt ((k:Int)<(n:Int));have e8:decide (k<n)=true:=dT hlt;obtain ⟨m,hm⟩:∃ m,n - k=m+1:=⟨n - k - 1,by omega⟩;have f8:n - (k+1)=m:=by omega
   rw [hm] at HI;obtain ⟨Ar,cr,hv,g1,g2,g3,gr⟩:=c6.o;simp at hv;subst hv;have zl:=mkS_size last;by_cases hsh:rs.length<2
   .
    have hN:=readN_short (n:=m) (last:=last) hsh;have HF:=Zz (readsF_fail (b:=b) (by rw [b_.o,HI.o,hN];rfl));have e1:=dt ((rs.length:Int)<2);have h7:=Zz (fun q=>bel_drewN HB.o q);clear hN gr;go_wp2;go_ret2;exact ⟨⟨none,HF.o,rfl⟩,HB.o⟩
   obtain ⟨n6,j_⟩:∃ n6,n6=rs.length:=⟨_,rfl⟩;obtain ⟨r0,r1,rest,q_⟩:∃ r0 r1 rest,rs=r0::r1::rest:=by
    match rs,hsh with
    | [],h=>exact absurd (by simp) h
    | [a],h=>exact absurd (by simp) h
    | a::b::l,_=>exact ⟨a,b,l,rfl⟩
   obtain ⟨gh,oh,rfl,a_⟩:=u8_plain (Kd.row_old gr HB.o) (by omega);have q0:=a_ 0 (by omega);have b1:=a_ 1 (by omega);simp only [q_,List.getElem_cons_zero,List.getElem_cons_succ,Nat.add_zero] at q0 b1;have g6:n6=rest.length+2:=by rw [j_,q_];rfl
   have t0:=r0.toNat_lt;have t1:=r1.toNat_lt;obtain ⟨p,hp⟩:∃ p,p=r0.toNat:=⟨_,rfl⟩;obtain ⟨q,hq⟩:∃ q,q=r1.toNat:=⟨_,rfl⟩;have u_:=Zz (readN_no (n:=m) (last:=last) (r0:=r0) (r1:=r1) (rest:=rest));have i_:=Zz (readN_two (n:=m) (last:=last) (r0:=r0) (r1:=r1) (rest:=rest));rw [<- hp,<- hq] at u_ i_;rw [<- hp] at q0 t0;rw [<- hq] at b1 t1;rw [q_] at HI;obtain ⟨ml,a3⟩:∃ ml,ml=rest.length:=⟨_,rfl⟩;have j0:(0:Int)<(n6:Int):=by omega
   have j1:(1:Int)<(n6:Int):=by omega
   have e1:=df ((n6:Int)<2);have g7:IntKind.i64.wrap ((n6:Int) - 2)=(ml:Int):=Zq
   rw [<- j_] at g1 g2;rw [<- a3] at u_ i_;have h_:=Zz gr;have l_:=Zz q_;have b9:=Zz a3;have a6:=Zz j_;have i4:ml+2<=n6:=by omega
   have i7:n6<=ml+2:=by omega
   rw [<- j_] at c5;rw [<- j_];clear a_ gr q_ hsh g6 hp hq a3 j_;by_cases hbad:last.length<p
   .
    have HF:=Zz (readsF_fail (b:=b) (by rw [b_.o,HI.o,u_.o (fun h=>by omega)];rfl));have e2:=dt ((last.length:Int)<(p:Int));go_wp2;go_ret2;exact ⟨⟨none,HF.o,rfl⟩,HB.o⟩
   have e2:=df ((last.length:Int)<(p:Int));by_cases hbad2:ml<q
   .
    have HF:=Zz (readsF_fail (b:=b) (by rw [b_.o,HI.o,u_.o (fun h=>by omega)];rfl));have e3:=dt ((ml:Int)<(q:Int));have e4:=dt ((n6:Int) - 2<(q:Int));go_wp2;go_ret2;exact ⟨⟨none,HF.o,rfl⟩,HB.o⟩
   have e3:=df ((ml:Int)<(q:Int));have e4:=df ((n6:Int) - 2<(q:Int));obtain ⟨Ac,m_,-,-,g_⟩:=Kd.cut_run (P:=Tryz.prog) byteK 55 5 underlying55 cellsB (.int .u8 0) 1 PackW.info_u8 (some ⟨gh,oh,none⟩) n6 cr 2 (q+2) (by omega) (by omega) g1 g2 g3;obtain ⟨Ad,-,n_,-,f_⟩:=Kd.cut_run (P:=Tryz.prog) byteK 55 5 underlying55 cellsB (.int .u8 0) 1 PackW.info_u8 (some ⟨gh,oh,none⟩) n6 cr (q+2) n6 (by omega) (lR _) g1 g2 g3;obtain ⟨X1,v_⟩:∃ X1,X1=last.take p:=⟨_,rfl⟩;obtain ⟨X2,t_⟩:∃ X2,X2=rest.take q:=⟨_,rfl⟩;obtain ⟨k_,d_⟩:∃ k_,k_=rest.drop q:=⟨_,rfl⟩;obtain ⟨X,hX⟩:∃ X,X=X1++X2:=⟨_,rfl⟩;have f2:X1.length=p:=by rw [v_];simp;omega
   have e9:X2.length=q:=by rw [t_];simp;have:=b9.o;omega
   have a9:X.length<=510:=by rw [hX,Zl];omega
   have g8:k_.length+q=ml:=by rw [d_];simp;have:=b9.o;omega
   have f0:Hid (readN n [] R0=(readN (n - (k+1)) X k_).map ((ls++[X]) ++ ·)):=Zz (by
    rw [HI.o,i_.o (by omega) (by omega),f8,<- v_,<- t_,<- hX,<- d_,Option.map_map];congr 1;funext l;simp)
   have d7:(rs.take (q+2)).drop 2=X2:=by
    rw [l_.o,t_]
    try rfl
   have p_:(rs.take n6).drop (q+2)=k_:=by
    rw [a6.o,List.take_length,l_.o,d_]
    try rfl
   have a4:=g_ wr (fun k=>k<w.heap.size) rs a6.o.symm (Kd.row_old h_.o HB.o);have b4:=f_ w (fun k=>k<w.heap.size) rs a6.o.symm h_.o;rw [d7,show q+2 - 2=X2.length by omega] at a4;rw [p_] at b4;have d4:Hid (∀ nq,(convert 55 9 (.slice Ac X2.length (cr - 2))).run Tryz.prog (wr.drewN nq)=.ok (.string (mkS X2)) (wr.drewN nq)):=Zz (fun nq=>BytesEq.conv_bytes (Kd.M_below a4 (bel_drewN (bR _ _) nq)));have h5:∀ (kl kh:IntKind) (w:World),(Instr.slice 55 (.slice (some ⟨gh,oh,none⟩) n6 cr) (some (.int kl 2)) (some (.int kh (2+(q:Int)))) none).run Tryz.prog w=.ok (.slice Ac X2.length (cr - 2)) w:=fun kl kh w=>by
    have h:=m_ kl kh w;rw [show ((q+2:Nat):Int)=2+(q:Int) by omega,show q+2 - 2=X2.length by omega] at h;exact h
   have i6:∀ (kl:IntKind) (w:World),(Instr.slice 55 (.slice (some ⟨gh,oh,none⟩) n6 cr) (some (.int kl (2+(q:Int)))) none none).run Tryz.prog w=.ok (.slice Ad (n6 - (q+2)) (cr - (q+2))) w:=fun kl w=>by
    have h:=n_ kl w rfl;rw [show ((q+2:Nat):Int)=2+(q:Int) by omega] at h;exact h
   have e7:=Zz b4;have g5:mkS X1++mkS X2=mkS X:=by rw [hX,mkS_append]
   have z1:=mkS_size X1;have z2:=mkS_size X2;have h9:(mkS last).extract 0 p=mkS X1:=by rw [mkS_extract,v_];simp
   have e5:=d4.o;have ip:(p:Int)<=(last.length:Int):=by omega
   have g4:Hid (∀ x∈ls++[X],x.length<=510):=Zz (fun x hx=>by
    rcases Zk.1 hx with h | h
    .
     exact c3.o x h
    .
     simp at h;subst h;exact a9)
   have d5:=Zz a9;have f3:X2.length<=255:=by omega
   have e0:X1.length<=255:=by omega
   clear m_ n_ g_ f_ v_ t_ hX d_ f2 e9 a4 b4 d7 p_ a9;go_upto_region 10 with fail
   go_quiet (fail);have b8:=Zz (strs_add ls X);have f5:(strs ls).length<=50000:=by rw [strs_len];omega
   have b0:=HB.o.size;have hY:=bR wr.heap.size wr;obtain ⟨A4,c4,rfl,_,_⟩:=Kd.own_slice HO.o;obtain ⟨Y,a1⟩:∃ Y,Y=strs ls:=⟨_,rfl⟩;rw [<- a1] at HO b8 f5;rw [<- a1];clear a1;go_upto_region 11 with fail
   have z_:=Zz (bel_drewN HB.o nq);have h4:=Zz (Kd.own_below HO.o (bel_drewN (bR _ _) nq));have h6:=Zz (Kd.row_old h_.o z_.o);clear q0 b1 e5 d4 HO HB hY b0;generalize wr.drewN nq=wq at *;have i3:=z_.o.size;go_region_held3 (fun w'=>True)
    (exact trivial)
    (first
     | (refine Kd.own_app_step strK (w0:=w) w.heap.size (by rfl) (.tmp 64) (.tmp 66) 51 9 Clones.zero_str 16 (by rfl) underlying51 Clones.info_str rfl (by decide) (.slice A4 Y.length c4) Y [mkS X] (some ⟨wq.heap.size,0,none⟩) 1 TT (by rfl) (by rfl) ?ho (.inr ⟨?hr,Clones.any_str⟩) ?hb ?hs ?hl ?_;go_loud (case ho=>repeat (first | exact h4.o | refine Kd.own_drew ?_ | refine Kd.own_alloc ?_ _));go_loud (case hr=>exact strK.sl.mono (fun _ _ _=>trivial) (Kd.M_below (Kd.M_bound (one_strs _ X (by have:=d5.o;omega))) (by repeat (first | exact bR _ _ | refine bel_drew ?_))));go_loud (case hb=>repeat (first | exact z_.o | refine bel_drew ?_ | refine bel_alloc ?_ _));go_loud (case hs=>first | (simp;done) | (simp;omega) | omega);go_loud (case hl=>first | (simp;done) | (simp;omega) | omega);intro v1 f7 ho1 hb1 hg1 hv1;go_loud (rw [b8.o] at ho1);have a8:=Zz ho1;have b2:=Zz hb1;clear ho1 hg1 hv1)
     | fail)
   all_goals (
    have i5:ls.length+1=k+1:=by omega
    go_wp2;go_roundw
    case rel=>exact ⟨k+1,X,k_,ls++[X],by go_num,by omega,rfl,d5.o,by simp;omega,by omega,e7,f0,g4,a8,b2⟩
    case measure=>simp [intOf];omega)
  .
   have hd:=df ((k:Int)<(n:Int));have e8:decide (k<n)=false:=dF hlt;have a7:Hid (parseF b=some ls):=Zz (by
    have e:n - k=0:=by omega
    rw [b_.o,HI.o,e,readN];simp)
   have g0:ls.length<=50000:=by omega
   obtain ⟨A4,c4,rfl,_,_⟩:=Kd.own_slice HO.o;rw [strs_len];have d0:=Zz (by
    have h1:=Kd.own_sl (ok:=TT) (ok':=fun _=>True) HO.o (fun _ _=>trivial) (fun _ _=>trivial)
    rwa [strs_len] at h1:strK.sl.M wr (fun _=>True) (strs ls) [.slice A4 ls.length c4])
   have d9:=Zz HB.o;clear HO HB HI c6 hd w_ c5;by_cases hmay:MayF ls
   .
    have c_:=Zz (new_calls ls hmay.1 hmay.2.1 hmay.2.2 A4 c4 wr d0.o);have r_:=Zz hmay;have b3:=hmay.1;clear hmay;go_wp2_with fail;refine c_.o.mono ?_;rintro e w8 ⟨⟨gd,rfl,f9,hD⟩,hb⟩;have b5:=Zz (bel_step d9.o hb);have d6:=Zz hD;have a0:=Zz (bytes_calls ls b3 (fun x hx=>(r_.o.2.1 x hx).2) gd w8 hD);obtain ⟨F,hF⟩:∃ F,F=frontB ls:=⟨_,rfl⟩;have b6:=Zz hF;rw [<- hF] at a0;clear hD hb c_ f9 hF;dsimp only;go_wp2_with fail;refine a0.o.mono ?_;rintro e w9 ⟨⟨v9,rfl,x_⟩,hb⟩;have a5:=Zz (bel_step b5.o hb);have h0:Hid (DictAt w9 (fun _=>True) gd ls):=Zz (by
     obtain ⟨A,c,hc,hM⟩:=d6.o;exact ⟨A,c,(hb.cell (p:=⟨gd,0,none⟩) (cell_lt hc)).trans hc,strK.sl.mono (fun _ _ _=>trivial) (Kd.M_below (Kd.M_bound hM) hb)⟩)
    have c8:=Kd.own_sl (ok:=TT) (ok':=fun _=>True) x_ (fun _ _=>trivial) (fun _ _=>trivial);obtain ⟨A9,c9,rfl,_,_⟩:=Kd.own_slice x_;have a2:=Zz (BytesEq.equal_calls F b A9 _ c9 c (fun _=>True) w9 c8 (byteK.sl.mono (fun _ _ _=>trivial) (Kd.M_below HM.o a5.o)));clear c8 x_ hb a0 d6;go_wp2_with fail;refine a2.o.mono ?_;rintro e f7 ⟨rfl,rfl⟩;by_cases hfb:F=b
    .
     have HF:=Zz (readsF_parse a7.o r_.o (by rw [<- b6.o];exact hfb));rw [dT hfb];clear hfb a2;go_wp2;go_ret2;exact ⟨⟨some ls,HF.o,gd,rfl,h0.o⟩,a5.o⟩
    .
     have HF:=Zz (readsF_not a7.o (fun h=>hfb (by rw [b6.o];exact h.2)));rw [dF hfb];clear hfb a2;go_wp2;go_ret2;exact ⟨⟨none,HF.o,rfl⟩,a5.o⟩
   .
    have c_:=Zz (new_bad ls (by omega) (fun x hx=>by have:=c3.o x hx;omega) hmay A4 c4 wr d0.o);have HF:=Zz (readsF_not a7.o (fun h=>hmay h.1));clear hmay;go_wp2_with fail;refine c_.o.mono ?_;rintro e w8 ⟨rfl,hb⟩;have b5:=Zz (bel_step d9.o hb);clear hb c_;dsimp only;go_wp2;go_ret2;exact ⟨⟨none,HF.o,rfl⟩,b5.o⟩
end FrontW
namespace PackW
open Go.RowKit Go.Lib B Rd StoreW Clones PackP
def rowI (b:List UInt8) (n wd i k:Nat):List Nat:=(List.range n).map fun j=>if j<i then numB b (j*wd) wd else if j=i then numB b (i*wd) k else 0
theorem rowI_len (b:List UInt8) (n wd i k:Nat):(rowI b n wd i k).length=n:=by simp [rowI]
theorem rowI_at (b:List UInt8) (n wd i k:Nat) (h:i<n):(rowI b n wd i k)[i]'(by rw [rowI_len];exact h)=numB b (i*wd) k:=by simp [rowI]
theorem rowI_set (b:List UInt8) (n wd i k:Nat) (h:i<n):(rowI b n wd i k).set i (numB b (i*wd) (k+1))=rowI b n wd i (k+1):=by
 refine List.ext_getElem (by simp [rowI]) fun j h1 h2=>?_
 rw [List.getElem_set];by_cases e:i=j
 .
  subst e;rw [if_pos rfl,rowI_at _ _ _ _ _ h]
 .
  rw [if_neg e];have e':¬ j=i:=fun h=>e h.symm
  simp only [rowI,List.getElem_map,List.getElem_range,if_neg e']
theorem rowI_next (b:List UInt8) (n wd i:Nat):rowI b n wd i wd=rowI b n wd (i+1) 0:=by
 refine List.ext_getElem (by simp [rowI]) fun j h1 h2=>?_
 simp only [rowI,List.getElem_map,List.getElem_range];by_cases h:j<i
 .
  rw [if_pos h,if_pos (by omega)]
 .
  rw [if_neg h];by_cases e:j=i
  .
   subst e;rw [if_pos rfl,if_pos (by omega)]
  .
   rw [if_neg e,if_neg (by omega)]
   split <;> rfl
theorem rowI_zero (b:List UInt8) (n wd:Nat):rowI b n wd 0 0=List.replicate n 0:=by
 refine List.ext_getElem (by simp [rowI]) fun j h1 h2=>?_
 simp only [rowI,List.getElem_map,List.getElem_range,List.getElem_replicate];rw [if_neg (by omega)]
 split <;> rfl
theorem rowI_end (b:List UInt8) (n wd:Nat):rowI b n wd n 0=rowB b n wd:=by
 refine List.ext_getElem (by simp [rowI,rowB]) fun j h1 h2=>?_
 simp only [rowI,rowB,List.getElem_map,List.getElem_range];rw [if_pos (by simpa [rowB] using h2)]
theorem made_ints {W:World} {base g n:Nat} (hb:base<=g) (hn:n<=1000000) (hh:W.heap[g]? = some (.cells (madeCells #[.int .i64 0] n) 3 (0,0))) :
  intK.own 3 W base TT (.slice (some ⟨g,0,none⟩) n n) (natZ (List.replicate n 0)):=by
 have e:natZ (List.replicate n 0)=List.replicate n (0:Int):=by simp [natZ]
 rw [e];refine Kd.own_make (z:=.int .i64 0) (by omega) rfl (fun _ _=>⟨rfl,by omega⟩) ⟨by simp,.inr ⟨g,n,_,rfl,hb,hh,lR _,by unfold maxLen;omega,by simp [madeCells],?_⟩⟩;rw [toList_madeCells_one];simp
theorem bit_and (v:UInt8) (t:Nat):Go.bits .and .u8 ((v.toNat:Int)/2^t) 1=((v.toNat.testBit t).toNat:Int):=by
 have e:(v.toNat:Int)/2^t=((v.toNat/2^t:Nat):Int):=by push_cast;rfl
 have hv:=v.toNat_lt;have hd:v.toNat/2^t<256:=Nat.lt_of_le_of_lt (Nat.div_le_self _ _) hv;rw [e,Nat.toNat_testBit];generalize v.toNat/2^t=a at *;have e2:Go.bits .and .u8 (a:Int) 1=IntKind.u8.wrap (((BitVec.ofInt 8 (a:Int)).toNat &&& 1:Nat):Int):=by
  simp only [bits,BitVec.toNat_and];rfl
 rw [e2,ofInt_u8 a hd,show a &&& 1=a % 2 from Nat.and_two_pow_sub_one_eq_mod a 1,IntKind.wrap_u8'];omega
theorem or_num (x z k:Nat) (hx:x<2^k) (hz:z<=1) (hk:k<40):Go.bits .or .i64 (x:Int) ((z*2^k:Nat):Int)=((x+z*2^k:Nat):Int):=by
 have a_:∀ n:Int,0<=n->n<2^63->IntKind.i64.wrap n=n:=fun n h0 h1=>by rw [Zw];omega
 have c_:(2:Nat)^k<=2^40:=Nat.pow_le_pow_right (by decide) (by omega);have b_:z*2^k<=1*2^k:=Nat.mul_le_mul_right _ hz;have hp:((2:Int)^k)=((2^k:Nat):Int):=by push_cast;rfl
 rw [bits_join_low .i64 63 (by decide) a_ k (x:Int) ((z*2^k:Nat):Int) (by omega) (by rw [hp];omega) (by omega) (by omega) (by rw [hp];rw [<- Int.natCast_emod];rw [Nat.mul_mod_left];rfl) (by omega)];omega
def UnpPost (b:List UInt8) (n wd:Nat) (w:World) (e:Ending) (w':World):Prop:=
 (∃ r,ReadsN b n wd r/\match r with
  | none=>e=.returned (.tuple #[.slice none 0 0,.int .i64 2])
  | some l=>∃ A c,e=.returned (.tuple #[.slice A l.length c,.int .i64 0])/\intK.sl.M w' (fun _=>True) (natZ l) [.slice A l.length c])/\Below w.heap.size w w'
theorem unpack_calls (b:List UInt8) (n wd:Nat) (hn:n<=1000) (hw:wd<=19) (A:Option Addr) (c:Nat) (w:World) (HL:byteK.sl.M w (fun _=>True) b [.slice A b.length c]) :
  Calls Tryz.prog 68 #[.slice A b.length c,.int .i64 n,.int .i64 wd] w (UnpPost b n wd w):=by
 have HM:=Zz (Kd.M_bound HL);obtain ⟨A',c',hv,h1,h2,h3,w_⟩:=HL;obtain ⟨rfl,rfl⟩:A=A'/\c=c':=by simpa using hv
 have HR:=Zz (Kd.row_mono (ok':=fun k=>k<w.heap.size) (fun k _ hk=>hk) w_);clear w_;obtain ⟨m,hm⟩:∃ m,m=n*wd:=⟨_,rfl⟩;have b7:(n:Int)*(wd:Int)=(m:Int):=by rw [hm];rfl
 have d6:m<=20000:=by rw [hm];exact Zh (Nat.mul_le_mul hn hw) (by decide)
 have d4:IntKind.i64.wrap (m:Int)=(m:Int):=Zq
 have a7:=Zz hm;obtain ⟨sz,k_⟩:∃ sz,sz=(m+7)/8:=⟨_,rfl⟩;have a8:sz<=2501:=by omega
 have x_:=Zz k_;have HF:=Zz (fun w=>fits_calls n wd hn (by omega) w);have HS:=Zz (fun w=>size_calls m (by omega) w);rw [<- k_] at HS;clear hm k_;by_cases hlen:b.length=sz
 case neg =>
  have b3:((b.length:Int) != (sz:Int))=true:=by simp;omega
  have HN:=Zz (readsN_size (b:=b) (n:=n) (wd:=wd) (by rw [<- a7.o,<- x_.o];exact hlen));clear hlen;go_enter func68,ntmps68;go_wp2_with fail;refine (HF.o _).mono ?_;rintro e w2 ⟨rfl,rfl⟩;go_wp2_with fail;refine (HS.o _).mono ?_;rintro e w3 ⟨rfl,rfl⟩;go_wp2;go_ret2;exact ⟨⟨none,HN.o,rfl⟩,bR _ _⟩
 have b3:((b.length:Int) != (sz:Int))=false:=by simp;omega
 have b8:=run_make_row' (P:=Tryz.prog) 74 3 (.int .i64 0) 8 underlying74 info_int rfl .i64 .i64 n (by omega) (by omega);have a5:Hid (Below w.heap.size w (w.alloc (.cells (madeCells #[.int .i64 0] n) 3))):=Zz (bel_alloc (bR _ _) _);have v_:Hid (intK.own 3 (w.alloc (.cells (madeCells #[.int .i64 0] n) 3)) w.heap.size TT (.slice (some ⟨w.heap.size,0,none⟩) n n) (natZ (rowI b n wd 0 0))):=Zz (by
  rw [rowI_zero];exact made_ints (lR _) (by omega) (Kd.heap_new _ _))
 generalize madeCells #[.int .i64 0] n=C0 at *;have h_:=Zz hlen;have e2:b.length<=2501:=by omega
 clear hlen;go_enter func68,ntmps68;go_wp2_with fail;refine (HF.o _).mono ?_;rintro e w2 ⟨rfl,rfl⟩;go_wp2_with fail;refine (HS.o _).mono ?_;rintro e w3 ⟨rfl,rfl⟩;go_wp2;go_loopw [29] (fun vi wr=>∃ i:Nat,vi=.int .i64 i/\i<=n/\Hid (intK.own 3 wr w.heap.size TT (.slice (some ⟨w.heap.size,0,none⟩) n n) (natZ (rowI b n wd i 0))/\Below w.heap.size w wr)) (fun vi _=>n - (intOf vi).toNat)
 case atStart=>exact ⟨0,rfl,by omega,Zz ⟨v_.o,a5.o⟩⟩
 case round =>
  obtain ⟨i,rfl,d7,HI⟩:=hrel;clear v_ a5 b8;by_cases hlt:i<n
  .
   have hd:decide (i<n)=true:=dT hlt;have ik:(i:Int)<(n:Int):=by omega
   obtain ⟨fr,f_⟩:∃ fr,fr=i*wd:=⟨_,rfl⟩;have c2:(i:Int)*(wd:Int)=(fr:Int):=by rw [f_];rfl
   have b2:fr+wd<=m:=by
    rw [f_,a7.o];have:=Nat.mul_le_mul_right wd (show i+1<=n from hlt);rw [Nat.succ_mul] at this;exact this
   have a0:=Zz f_;have a6:=Zz HI.o.1;have z_:=Zz HI.o.2;clear f_ HI;go_wp2;go_loopw [33] (fun vk wx=>∃ k:Nat,vk=.int .i64 k/\k<=wd/\Hid (intK.own 3 wx w.heap.size TT (.slice (some ⟨w.heap.size,0,none⟩) n n) (natZ (rowI b n wd i k))/\Below w.heap.size w wx)) (fun vk _=>wd - (intOf vk).toNat)
   case atStart=>exact ⟨0,rfl,by omega,Zz ⟨a6.o,z_.o⟩⟩
   case round =>
    obtain ⟨k,rfl,d3,HK⟩:=hrel;clear a6 z_;by_cases hkl:k<wd
    .
     have b0:decide (k<wd)=true:=dT hkl;have p_:(fr+k)/8<b.length:=by have:=x_.o;have:=h_.o;omega
     have jz:(((fr+k)/8:Nat):Int)<(b.length:Int):=by omega
     have d9:(natZ (rowI b n wd i k)).length=n:=by rw [natZ_len,rowI_len]
     obtain ⟨u,e_,hu⟩:=Kd.own_cell (i:=i) rfl HK.o.1 (by omega);obtain ⟨x,hx⟩:∃ x:Nat,x=numB b fr k:=⟨_,rfl⟩;have b5:u=.int .i64 (x:Int):=by
      have e1:(natZ (rowI b n wd i k))[i]'(by omega)=(x:Int):=by
       simp only [natZ,List.getElem_map];rw [rowI_at _ _ _ _ _ hlt,<- a0.o,<- hx]
      rw [e1] at hu;have h1:=hu.1;simp at h1;exact h1
     subst b5;obtain ⟨ba,c3,rfl,a_⟩:=BoxWalk.u8_plain HR.o (by omega);have o_:=(HK.o.2.cell (p:=⟨ba,c3+(fr+k)/8,none⟩) (cell_lt (a_ _ p_))).trans (a_ _ p_);obtain ⟨v,hv⟩:∃ v:UInt8,v=b[(fr+k)/8]:=⟨_,rfl⟩;rw [<- hv] at o_;obtain ⟨z,hz⟩:∃ z,z=(v.toNat.testBit ((fr+k) % 8)).toNat:=⟨_,rfl⟩;have m_:=bit_and v ((fr+k) % 8);rw [<- hz] at m_;have i_:z<=1:=by rw [hz];cases v.toNat.testBit ((fr+k) % 8) <;> simp
     have b6:x<2^k:=by rw [hx];exact numB_lt _ _ _
     have y_:=or_num x z k b6 i_ (by omega);obtain ⟨y,hy⟩:∃ y,y=x+z*2^k:=⟨_,rfl⟩;rw [<- hy] at y_;have HY:Hid (y=numB b fr (k+1)):=Zz (by
      rw [hy,numB,<- hx,hz];unfold bitB;rw [Zg p_,<- hv];rfl)
     have d0:=fun p:QT.Bel wr=>p.cell e_
     have c9:=fun p:QT.Bel wr=>p.cell o_
     have c_:Hid (∀ w2,Below wr.heap.size wr w2->intK.own 3 (w2.setCell ⟨w.heap.size,i,none⟩ (.int .i64 (y:Int))) w.heap.size TT (.slice (some ⟨w.heap.size,0,none⟩) n n) (natZ (rowI b n wd i (k+1)))/\Below w.heap.size w (w2.setCell ⟨w.heap.size,i,none⟩ (.int .i64 (y:Int)))/\w2.cell? ⟨w.heap.size,i,none⟩=some (.int .i64 (x:Int))/\w2.frozen? ⟨w.heap.size,i,none⟩=false):=Zz (fun w2 b_=>by
      have h1:=Kd.own_below HK.o.1 b_;have d2:y<=1000000000:=by
       have t_:(2:Nat)^k<=2^19:=Nat.pow_le_pow_right (by decide) (by omega);have b9:z*2^k<=1*2^k:=Nat.mul_le_mul_right _ i_;omega
      have h2:=Kd.own_set (u:=.int .i64 (y:Int)) rfl h1 (i:=i) (by omega) (x:=(y:Int)) ⟨rfl,by omega⟩;have e:(natZ (rowI b n wd i k)).set i (y:Int)=natZ (rowI b n wd i (k+1)):=by
       rw [<- rowI_set b n wd i k hlt,<- a0.o,<- HY.o];simp [natZ]
      rw [e] at h2;have c7:=cell_lt e_;exact ⟨h2,bel_set (bel_step HK.o.2 b_) (lR _) _,(b_.cell (p:=⟨w.heap.size,i,none⟩) c7).trans e_,Kd.own_frozen h1 _⟩)
     have a3:∀ t:Nat,t=z*2^k->IntKind.i64.wrap ((z:Int)*2^k)=(t:Int):=fun t ht=>by
      have b1:(z:Int)*2^k=((z*2^k:Nat):Int):=by push_cast;rfl
      have t_:(2:Nat)^k<=2^19:=Nat.pow_le_pow_right (by decide) (by omega);have b9:z*2^k<=1*2^k:=Nat.mul_le_mul_right _ i_;rw [b1,<- ht,Zw];omega
     obtain ⟨t,ht⟩:∃ t,t=z*2^k:=⟨_,rfl⟩;have d5:=a3 t ht;rw [<- ht] at y_;clear a3 ht;have a9:(k:Int)<=19:=by omega
     clear hu hx hz hy hv a_ HK;go_upto_region 13 with fail
     refine QT.region_bel 18 (by kernel_rfl) (by kernel_rfl) ?_;simp only [List.take_succ_cons,List.take_zero,List.drop_succ_cons,List.drop_zero]
     iterate 18 (go_big_quiet_step (fail))
     refine wpQuiet_nil ?_;intro w2 hw';obtain ⟨⟨_,b_⟩,rfl⟩:=hw';obtain ⟨u_,a4,e0,d8⟩:=c_.o w2 b_;have c8:=Zz u_;have c5:=Zz a4;clear u_ a4 b_ c_ d0 e_ c9 o_;go_wp2;go_roundw
     case rel=>exact ⟨k+1,by go_num,by omega,Zz ⟨c8.o,c5.o⟩⟩
     case measure=>simp [intOf];omega
    .
     have b0:decide (k<wd)=false:=dF hkl;obtain rfl:k=wd:=by omega
     have b4:Hid (intK.own 3 wr w.heap.size TT (.slice (some ⟨w.heap.size,0,none⟩) n n) (natZ (rowI b n k (i+1) 0))):=Zz (by rw [<- rowI_next];exact HK.o.1);have c6:=Zz HK.o.2;clear HK;go_wp2;go_roundw
     case rel=>exact ⟨i+1,by go_num,by omega,Zz ⟨b4.o,c6.o⟩⟩
     case measure=>simp [intOf];omega
  .
   have hd:decide (i<n)=false:=dF hlt;obtain rfl:i=n:=by omega
   have l_:=Zz HI.o.1;have d1:=Zz HI.o.2;rw [rowI_end] at l_;have d_:Hid ((rowB b i wd).length=i):=Zz (rowB_len _ _ _);have c1:Hid (∀ x∈rowB b i wd,x<=1000000/\Lib.bitLen x<=wd):=Zz (fun x hx=>by
    have h:=rowB_lt _ _ _ x hx;have t_:(2:Nat)^wd<=2^19:=Nat.pow_le_pow_right (by decide) (by omega);exact ⟨by omega,Lib.bitLen_le _ _ (by omega) h⟩)
   have a2:=Zz (Kd.own_sl (ok:=TT) (ok':=fun _=>True) l_.o (fun _ _=>trivial) (fun _ _=>trivial));have g_:=Zz (pack_calls (rowB b i wd) wd (by omega) (by rw [d_.o];omega) c1.o (some ⟨w.heap.size,0,none⟩) i wr (Kd.M_bound (by rw [d_.o];exact a2.o)));rw [d_.o] at g_;obtain ⟨F,hF⟩:∃ F,F=packB (rowB b i wd) wd:=⟨_,rfl⟩;have s_:=Zz hF;rw [<- hF] at g_;clear HI hF l_;go_wp2_with fail;refine g_.o.mono ?_;rintro e w4 ⟨⟨v4,rfl,r_⟩,q_⟩;have j_:=Zz (bel_step d1.o q_);have a1:=Kd.own_sl (ok:=TT) (ok':=fun _=>True) r_ (fun _ _=>trivial) (fun _ _=>trivial);obtain ⟨A4,c4,rfl,_,_⟩:=Kd.own_slice r_;have n_:=Zz (BytesEq.equal_calls F b A4 A c4 c (fun _=>True) w4 a1 (byteK.sl.mono (fun _ _ _=>trivial) (Kd.M_below HM.o j_.o)));have c0:Hid (intK.sl.M w4 (fun _=>True) (natZ (rowB b i wd)) [.slice (some ⟨w.heap.size,0,none⟩) i i]):=Zz (intK.sl.mono (fun _ _ _=>trivial) (Kd.M_below (Kd.M_bound a2.o) q_));clear r_ q_ a1 g_;dsimp only;go_wp2_with fail;refine n_.o.mono ?_;rintro e w5 ⟨rfl,rfl⟩;by_cases hfb:F=b
   .
    have HF:=Zz (readsN_row (b:=b) (n:=i) (wd:=wd) (by rw [<- s_.o];exact hfb));rw [dT hfb];clear hfb n_;go_wp2;go_ret2;exact ⟨⟨some (rowB b i wd),HF.o,some ⟨w.heap.size,0,none⟩,i,(by rw [d_.o];try rfl),(by rw [d_.o];exact c0.o)⟩,j_.o⟩
   .
    have HF:=Zz (readsN_not (b:=b) (n:=i) (wd:=wd) (by rw [<- s_.o];exact hfb));rw [dF hfb];clear hfb n_;go_wp2;go_ret2;exact ⟨⟨none,HF.o,rfl⟩,j_.o⟩
end PackW
namespace DecW
open Go.RowKit Go.Lib B Rd TermPure LinesPure Tri SortP OrdG Env StoreP StoreW FrontP FrontW PackP BoxPure BoxWalk BoxPack
def DPost (b:List UInt8) (w:World) (e:Ending) (w':World):Prop:=
 (∃ r,DecR b r/\match r with
  | none=>e=.returned (.tuple #[.pointer none,.int .i64 2])
  | some T=>∃ g,e=.returned (.tuple #[.pointer (some ⟨g,0,none⟩),.int .i64 0])/\StoreAt w' (fun _=>True) g T)/\Below w.heap.size w w'
theorem dec_calls (b:List UInt8) (hb:b.length<=80000) (A:Option Addr) (c:Nat) (w:World) (he:Env w) (HL:byteK.sl.M w (fun _=>True) b [.slice A b.length c]) :
  Calls Tryz.prog 35 #[.slice A b.length c] w (DPost b w):=by
 have HM:=Zz (Kd.M_bound HL);have HU:=Zz (BoxUnpack.unpack_calls b _ w HL);have HE:=Zz he;clear HL he;go_enter func35,ntmps35;go_wp2_with fail;refine HU.o.mono ?_;rintro e w1 ⟨d9,r,hr,hm⟩;have o_:=Zz d9;clear HU d9;cases r with
 | none =>
  dsimp only at hm;subst hm;have HF:=Zz (dec_none_box hr);clear hr;dsimp only;go_wp2;go_ret2;exact ⟨⟨none,HF.o,rfl⟩,o_.o⟩
 | some l =>
  obtain ⟨v,rfl,ho⟩:=hm;have f_:=Zz hr;have e4:=ms ho;obtain ⟨A4,c4,rfl,_,_⟩:=Kd.own_slice ho;have h7:=Zz e4;clear hr ho e4;dsimp only;by_cases h2:l.length=2
  case neg =>
   have i7:((l.length:Int) != 2)=true:=by simp;omega
   have HF:=Zz (dec_none_len f_.o h2);clear h2;go_wp2;go_ret2;exact ⟨⟨none,HF.o,rfl⟩,o_.o⟩
  obtain ⟨s1,s2,rfl⟩:∃ s1 s2,l=[s1,s2]:=by
   match l,h2 with
   | [a,b'],_=>exact ⟨a,b',rfl⟩
  obtain ⟨b4,o4,rfl,e6,i_⟩:=SecTwo.sec_at h7.o (by simp);obtain ⟨A1,c1,k1,a6⟩:=i_ 0 (by simp);obtain ⟨A2,c2,k2,b2⟩:=i_ 1 (by simp);simp only [List.getElem_cons_zero,List.getElem_cons_succ,Nat.zero_mul,Nat.add_zero,Nat.one_mul] at k1 k2 a6 b2;simp only [Zc,List.length_nil,Nat.zero_add,Nat.reduceAdd] at *;have j_:=(f_.o [s1,s2]).1 rfl;have HK:=Zz (fun W (hW:Below w1.heap.size w1 W)=>(⟨(hW.cell (p:=⟨b4,o4+1,none⟩) e6).trans k1,(hW.cell (p:=⟨b4,o4+2+1,none⟩) e6).trans k2⟩:W.cell? ⟨b4,o4+1,none⟩=some (.slice A1 s1.2.length c1)/\W.cell? ⟨b4,o4+2+1,none⟩=some (.slice A2 s2.2.length c2)));have i2:=Zz a6;have d4:=Zz b2;clear a6 b2 i_ h2;by_cases hsh:s2.2.length<2
  .
   have d2:=dt ((s2.2.length:Int)<2);have HF:=Zz (dec_none_short f_.o hsh);go_wp2;go_ret2;exact ⟨⟨none,HF.o,rfl⟩,o_.o⟩
  have d2:=df ((s2.2.length:Int)<2);have a9:s1.2.length<=100000:=by
   have h:=j_.1.2.2;simp only [total,Zc,List.length_nil] at h;omega
  have f9:s2.2.length<=100000:=by
   have h:=j_.1.2.2;simp only [total,Zc,List.length_nil] at h;omega
  have e5:=Zz (FrontW.read_calls s1.2 a9 A1 c1 w1 i2.o);obtain ⟨g5,f6,c3,g1,g2,g3,gr⟩:=id d4.o;obtain ⟨rfl,rfl⟩:A2=g5/\c2=f6:=by simpa using c3
  obtain ⟨bx,ox,rfl,c_⟩:=u8_plain gr (by omega);have e8:bx<w1.heap.size:=cell_lt (c_ 0 (by omega));obtain ⟨p0,a0⟩:∃ p0,p0=s2.2[0].toNat:=⟨_,rfl⟩;obtain ⟨p1,u_⟩:∃ p1,p1=s2.2[1].toNat:=⟨_,rfl⟩;have l0:p0<256:=by rw [a0];exact s2.2[0].toNat_lt
  have l1:p1<256:=by rw [u_];exact s2.2[1].toNat_lt
  obtain ⟨a_,l_⟩:∃ a_,a_=cntB s2.2:=⟨_,rfl⟩;have f5:p0*256+p1=a_:=by
   rw [l_,a0,u_];unfold cntB;rw [List.getD_eq_getElem?_getD,List.getD_eq_getElem?_getD,Zg (by omega),Zg (by omega)]
   try rfl
  have i1:∀ n:Int,0<=n->n<2^63->IntKind.i64.wrap n=n:=fun n h0 h1=>by rw [Zw];omega
  have i9:IntKind.i64.wrap ((p0:Int)*256+(p1:Int))=(a_:Int):=Zq
  have j3:IntKind.i64.wrap ((p0:Int)*256)=(p0:Int)*256:=Zq
  have HY:=Zz (fun W (hW:Below w1.heap.size w1 W)=>(⟨(hW.cell (p:=⟨bx,ox+0,none⟩) e8).trans (c_ 0 (by omega)),(hW.cell (p:=⟨bx,ox+1,none⟩) e8).trans (c_ 1 (by omega))⟩:W.cell? ⟨bx,ox+0,none⟩=some (.int .u8 (s2.2[0].toNat:Int))/\W.cell? ⟨bx,ox+1,none⟩=some (.int .u8 (s2.2[1].toNat:Int))));rw [<- a0,<- u_] at HY;have a3:=Zz l_;have y0:(0:Int)<(s2.2.length:Int):=by omega
  have y1:(1:Int)<(s2.2.length:Int):=by omega
  have j1:a_<=65535:=by omega
  clear f5 a0 u_ l_ c_ gr j_ i1 hsh c3;go_wp2_with fail;refine e5.o.mono ?_;rintro e w2 ⟨⟨r6,hf,a1⟩,p_⟩;have b3:=Zz (bel_step o_.o p_);have q_:=Zz p_;obtain ⟨z1,z2⟩:=HY.o w2 p_;obtain ⟨q1,q2⟩:=HK.o w2 p_;rw [Nat.add_zero] at z1;clear e5 p_ k1 k2;cases r6 with
  | none =>
   dsimp only at a1;subst a1;have HF:=Zz (dec_none_front f_.o hf);have f8:=Zz (fun q=>bel_drewN b3.o q);clear hf;dsimp only;go_upto_region 6 with fail
   go_quiet (fail);go_wp2;go_ret2;exact ⟨⟨none,HF.o,rfl⟩,f8.o _⟩
  | some L =>
   obtain ⟨g6,rfl,e1⟩:=a1;have z_:=Zz hf;have e3:=Zz e1;clear hf e1;dsimp only;go_upto_region 6 with fail
   go_quiet (fail);have g4:=Zz (bel_drewN b3.o nq);have a2:=Zz (bel_drewN q_.o nq);have d0:Hid (DictAt (w2.drewN nq) (fun _=>True) g6 L):=Zz (by
    obtain ⟨A',c',h1,h2⟩:=e3.o;have m_:=bel_drewN (bR w2.heap.size w2) nq;exact ⟨A',c',(m_.cell (p:=⟨g6,0,none⟩) (cell_lt h1)).trans h1,strK.sl.mono (ok':=fun _=>True) (fun _ _ _=>trivial) (Kd.M_below (Kd.M_bound h2) m_)⟩)
   clear q1 q2 z1 z2 b3 q_ e3;generalize w2.drewN nq=w3 at *;by_cases h100:100<a_
   .
    have d1:=dt ((a_:Int) > 100);have i3:=dt ((100:Int)<(a_:Int));have HF:=Zz (dec_none_cnt f_.o (by rw [<- a3.o];exact h100));go_wp2;go_ret2;exact ⟨⟨none,HF.o,rfl⟩,g4.o⟩
   have d1:=df ((a_:Int) > 100);have i3:=df ((100:Int)<(a_:Int));have j2:a_<=100:=by omega
   have d6:=Zz (((z_.o L).1 rfl).1);have i0:L.length<=300:=d6.o.1;have g9:=Zz (FrontW.dlen_calls L g6 w3.drew _ (by
    obtain ⟨A',c',h1,h2⟩:=d0.o;have m_:=bel_drew (bR w3.heap.size w3);exact (⟨A',c',(m_.cell (p:=⟨g6,0,none⟩) (cell_lt h1)).trans h1,strK.sl.mono (ok':=fun _=>True) (fun _ _ _=>trivial) (Kd.M_below (Kd.M_bound h2) m_)⟩:DictAt w3.drew (fun _=>True) g6 L)))
   obtain ⟨wd,v_⟩:∃ wd,wd=Lib.bitLen L.length:=⟨_,rfl⟩;have b5:wd<=9:=by rw [v_];exact Lib.bitLen_le _ 9 (by decide) (by omega)
   have d5:=Zz (fun W=>PackW.width_calls L.length (by omega) W);rw [<- v_] at d5;obtain ⟨n3,c9⟩:∃ n3,n3=3*a_:=⟨_,rfl⟩;have c6:(a_:Int)*(3:Int)=(n3:Int):=by omega
   have g7:IntKind.i64.wrap (n3:Int)=(n3:Int):=Zq
   have f3:n3<=300:=by omega
   have a7:(s2.2.drop 2).length=s2.2.length - 2:=by simp
   obtain ⟨w_,-,r_,-,e_⟩:=Kd.cut_run (P:=Tryz.prog) byteK 55 5 underlying55 BoxUnpack.cellsB (.int .u8 0) 1 PackW.info_u8 (some ⟨bx,ox,none⟩) s2.2.length c2 2 s2.2.length (by omega) (lR _) g1 g2 (fun h=>by cases h);have g0:∀ (kl:IntKind) (w:World),(Instr.slice 55 (.slice (some ⟨bx,ox,none⟩) s2.2.length c2) (some (.int kl 2)) none none).run Tryz.prog w=.ok (.slice w_ (s2.2.length - 2) (c2 - 2)) w:=fun kl w=>r_ kl w rfl
   have n_:byteK.sl.M w1 (fun _=>True) (s2.2.drop 2) [.slice w_ (s2.2.drop 2).length (c2 - 2)]:=by
    obtain ⟨_,_,hv,_,_,_,hr⟩:=id d4.o;simp at hv;obtain ⟨rfl,rfl⟩:=hv;have h:=e_ w1 _ s2.2 rfl hr;rw [List.take_length] at h;rw [a7];exact h
   clear r_ e_;have b1:=Zz (fun W (hW:Below w1.heap.size w1 W)=>PackW.unpack_calls (s2.2.drop 2) n3 wd (by omega) (by omega) w_ (c2 - 2) W (mb n_ hW));rw [a7] at b1;have h3:Hid (∀ W,Below w1.heap.size w1 W->Calls Tryz.prog 68 #[.slice w_ (s2.2.length - 2) (c2 - 2),.int .i64 n3,.int .i64 wd] W fun e w'=>(∃ A' n' c' g,e=.returned (.tuple #[.slice A' n' c',.int .i64 g])/\((g=2/\ReadsN (s2.2.drop 2) n3 wd none)\/(g=0/\∃ l,ReadsN (s2.2.drop 2) n3 wd (some l)/\n'=l.length/\intK.sl.M w' (fun _=>True) (natZ l) [.slice A' l.length c'])))/\Below W.heap.size W w'):=Zz (fun W hW=>(b1.o W hW).mono (by
    rintro e w' ⟨⟨r,hr,hm⟩,hb⟩;cases r with
    | none=>exact ⟨⟨none,0,0,2,hm,.inl ⟨rfl,hr⟩⟩,hb⟩
    | some l =>
     obtain ⟨A',c',he,hM⟩:=hm;exact ⟨⟨A',l.length,c',0,he,.inr ⟨rfl,l,hr,rfl,hM⟩⟩,hb⟩))
   clear b1;have c0:=Zz v_;have x_:=Zz c9;clear v_ c9 a7 n_;have d_:Below w1.heap.size w1 w3.drew:=bel_drew a2.o;have hS:True:=trivial;go_upto_region 9 with fail
   refine HeldZ.region (fun W=>True) 12 13 #[false,false,false,false,false,false,false,false,false,false,false,false,false] (by kernel_rfl) rfl rfl ?_;intro hinv;refine HeldZ.tk 0 hinv hS ?_;clear hinv;intro hinv
   try simp only [Act.put,Zs,HeldZ.sm] at hinv |-
   refine HeldZ.tk 1 hinv hS ?_;clear hinv;intro hinv
   try simp only [Act.put,Zs,HeldZ.sm] at hinv |-
   refine HeldZ.tk 2 hinv hS ?_;clear hinv;intro hinv
   try simp only [Act.put,Zs,HeldZ.sm] at hinv |-
   refine HeldZ.tk 3 hinv hS ?_;clear hinv;intro hinv
   try simp only [Act.put,Zs,HeldZ.sm] at hinv |-
   refine HeldZ.tk 4 hinv hS ?_;clear hinv;intro hinv
   try simp only [Act.put,Zs,HeldZ.sm] at hinv |-
   refine HeldZ.ow 5 hinv ?_;clear hinv;intro hinv K hK;go_simp;refine g9.o.mono ?_;rintro e w4 ⟨rfl,rfl⟩;refine hK _ _ (fun _=>hS) ?_;clear hK K
   try simp only [Act.put,Zs,HeldZ.sm] at hinv |-
   refine HeldZ.ow 6 hinv ?_;clear hinv;intro hinv K hK;go_simp;refine (d5.o _).mono ?_;rintro e w5 ⟨rfl,rfl⟩;refine hK _ _ (fun _=>hS) ?_;clear hK K
   try simp only [Act.put,Zs,HeldZ.sm] at hinv |-
   refine HeldZ.ow 7 hinv ?_;clear hinv;intro hinv K hK;go_simp;refine (h3.o _ d_).mono ?_;rintro e w6 ⟨⟨h9,j4,f7,j0,rfl,b_⟩,hb6⟩;have a8:=Zz hb6;have d_:Below w1.heap.size w1 w6:=bel_step (by assumption) hb6;have c7:=Zz b_;clear b_ hb6;refine hK _ _ (fun _=>hS) ?_;clear hK K
   try simp only [Act.put,Zs,HeldZ.sm] at hinv |-
   refine HeldZ.tk 8 hinv hS ?_;clear hinv;intro hinv
   try simp only [Act.put,Zs,HeldZ.sm] at hinv |-
   refine HeldZ.tk 9 hinv hS ?_;clear hinv;intro hinv
   try simp only [Act.put,Zs,HeldZ.sm] at hinv |-
   refine HeldZ.tk 10 hinv hS ?_;clear hinv;intro hinv
   try simp only [Act.put,Zs,HeldZ.sm] at hinv |-
   refine HeldZ.tk 11 hinv hS ?_;clear hinv;intro hinv
   try simp only [Act.put,Zs,HeldZ.sm] at hinv |-
   refine HeldZ.oneW 12 hinv (by kernel_rfl) rfl (by rfl) ?_;clear hinv;intro _ K hK;go_simp;refine hK _ _ (fun h=>absurd rfl h) ?_;refine HeldZ.done (by kernel_rfl) ?_ _;clear hK K hS;have b0:=Zz (bel_step o_.o d_);have f2:=Zz (bel_step (bel_drew (bR w3.heap.size w3)) a8.o);have h4:Hid (DictAt w6 (fun _=>True) g6 L):=Zz (by
    obtain ⟨A',c',h1,h2⟩:=d0.o;exact ⟨A',c',(f2.o.cell (p:=⟨g6,0,none⟩) (cell_lt h1)).trans h1,strK.sl.mono (ok':=fun _=>True) (fun _ _ _=>trivial) (Kd.M_below (Kd.M_bound h2) f2.o)⟩)
   clear d_;rcases c7.o with ⟨rfl,hn⟩ | ⟨rfl,l,hn,rfl,hMl⟩
   .
    have HF:=Zz (dec_none_nums f_.o z_.o (by rw [<- a3.o,<- x_.o,<- c0.o];exact hn));clear hn;go_wp2;go_ret2;exact ⟨⟨none,HF.o,rfl⟩,b0.o⟩
   obtain ⟨I,rfl,e2⟩:∃ I,l=nums I/\I.length=a_:=⟨threes l,(nums_threes a_ l (by rw [((hn l).1 rfl).1,x_.o])).1.symm,(nums_threes a_ l (by rw [((hn l).1 rfl).1,x_.o])).2⟩;have s_:I.length<=100:=by omega
   have d7:Hid (ReadsN (s2.2.drop 2) (3*cntB s2.2) (Lib.bitLen L.length) (some (nums I))):=Zz (by rw [<- a3.o,<- x_.o,<- c0.o];exact hn);have f4:Hid (∀ x∈nums I,x<=1000000):=Zz (fun x hx=>by
    have h:=((hn (nums I)).1 rfl).2.1 x hx;have h2:2^wd<=2^9:=Nat.pow_le_pow_right (by decide) b5;omega)
   have e7:=Zz (TripW.trip_calls L I s_ i0 (fun x hx=>by have:=d6.o.2.1 x hx;omega) f4.o g6 h9 f7 w6 (HE.o.below b0.o) h4.o hMl);have i8:=Zz e2;clear hn hMl c7 e2;go_wp2_with fail;refine e7.o.mono ?_;rintro e w7 ⟨b_,f0⟩;have f1:=Zz (bel_step b0.o f0);clear f0 e7;rcases b_ with ⟨v10,hno,rfl⟩ | ⟨T,A13,c13,hMk,hV,rfl,hMT⟩
   .
    have HF:=Zz (dec_none_makes f_.o z_.o d7.o hno);clear hno;dsimp only;go_wp2;go_ret2;exact ⟨⟨none,HF.o,rfl⟩,f1.o⟩
   have g_:T.length<=100:=by have h:=hMk.1;omega
   have HV:=Zz hV;have h5:Hid (Makes L I T):=Zz hMk;have d8:=Zz (SortW.sort_calls T A13 c13 w7 (Kd.M_bound hMT) (fun x hx=>(Parse.valid_small (hV x hx)).1) hV (by omega));clear hMk hV hMT;dsimp only;go_wp2_with fail;refine d8.o.mono ?_;rintro e w8 ⟨g8,i4,rfl,c8,b9⟩;have i6:=Zz (bel_step f1.o b9);have e9:Hid (Valid (sortT T)):=Zz (ParseOk.sortT_valid HV.o);have b7:(sortT T).length<=100:=Zh (ParseOk.sortT_len T) g_;have b8:=Zz (Made.made_calls (sortT T) e9.o (sortT_rise HV.o) b7 g8 i4 w8 _ c8);clear c8 b9 d8;go_wp2_with fail;refine b8.o.mono ?_;rintro e w9 ⟨⟨gR,rfl,e0⟩,d3⟩;have h6:=Zz (bel_step i6.o d3);have c5:Hid (StoreAt w9 (fun _=>True) gR (sortT T)):=Zz (e0.mono (fun _ _ _=>trivial));have a5:=Zz (Encode.encode_calls (sortT T) e9.o b7 gR w9 _ c5.o);obtain ⟨X,hX⟩:∃ X,X=encT (sortT T):=⟨_,rfl⟩;have HX:=Zz hX;rw [<- hX] at a5;clear e0 d3 b8 hX;go_wp2_with fail;refine a5.o.mono ?_;rintro e h8 ⟨⟨va,rfl,a4⟩,h_⟩;have t_:=ms a4;obtain ⟨Aa,ca,rfl,_,_⟩:=Kd.own_slice a4;have k_:=Zz (bel_step h6.o h_);have b6:=Zz (c5.o.below h_);have y_:=Zz (BytesEq.equal_calls X b Aa A ca c (fun _=>True) h8 t_ (byteK.sl.mono (ok':=fun _=>True) (fun _ _ _=>trivial) (Kd.M_below HM.o k_.o)));clear a4 h_ t_ a5;by_cases hxb:X=b
   .
    have HF:=Zz (dec_some (b:=b) HV.o g_ (by rw [<- HX.o];exact hxb));rw [dT hxb] at y_;clear hxb;go_wp2_with fail;refine y_.o.mono ?_;rintro e i5 ⟨rfl,rfl⟩;go_wp2;go_ret2;exact ⟨⟨some (sortT T),HF.o,gR,rfl,b6.o⟩,k_.o⟩
   .
    have HF:=Zz (dec_none_eq f_.o z_.o d7.o h5.o (by rw [<- HX.o];exact hxb));rw [dF hxb] at y_;clear hxb;go_wp2_with fail;refine y_.o.mono ?_;rintro e i5 ⟨rfl,rfl⟩;go_wp2;go_ret2;exact ⟨⟨none,HF.o,rfl⟩,k_.o⟩
end DecW
namespace BoxRefUn
open Go.RowKit CrcPure BoxPure B CrcWalk CrcLaws BoxWalk BoxPack BoxRef BoxUnpack
theorem num_cells {h:List UInt8} (h3:4<=h.length):((num (h.drop 1):Nat):Int)=Go.bits .or .i64 (Go.bits .or .i64 ((h[1].toNat:Int)*65536) ((h[2].toNat:Int)*256)) (h[3].toNat:Int):=by
 rw [or_bytes];unfold num;rw [getD_at _ 0 (by simp;omega),getD_at _ 1 (by simp;omega),getD_at _ 2 (by simp;omega)];simp [List.getElem_drop]
theorem refunpack_calls (b:List UInt8) (hb:b.length<=80000) (v:Value) (w:World) (m:byteK.sl.M w T b [v]) :
  Calls Tryz.prog 73 #[v] w (UnpackPost b w):=by
 obtain ⟨A,c,hv,h1,h2,h3,i_⟩:=m;simp at hv;subst hv;have HR:=Zz (Kd.row_mono (ok':=fun k=>k<w.heap.size) (fun k _ hk=>hk) i_);have HM:=Zz (Kd.u8_sl h1 h2 h3 i_);clear i_;by_cases c9:b.length<9
 .
  have q1:=dt ((b.length:Int)<9);have HN:=Zz (reads_short (b:=b) (.inl (by omega)));clear h2;go_enter func73,ntmps73;go_wp2;go_ret2;exact ⟨bR _ _,none,HN.o,rfl⟩
 .
  have q1:=df ((b.length:Int)<9);obtain ⟨ba,l_,rfl,a_⟩:=u8_plain HR.o (by omega);have c6:=a_ 5 (by omega);have HG:Hid (b.getD 5 0=b[5]):=Zz (getD_at b 5 (by omega));have a4:=b[5].toNat_lt;clear a_;have i5:(5:Int)<(b.length:Int):=by omega
  generalize hbn:b[5]=bn at *;clear hbn;generalize hnn:bn.toNat=n at *;have wn:IntKind.i64.wrap (n:Int)=(n:Int):=Zq
  have HC:=Zz h2;clear h2;by_cases c8:8<n
  .
   have q2:=dt (8<(n:Int));have HN:=Zz (reads_short (b:=b) (.inr (.inr (by rw [HG.o,hnn];exact c8))));go_enter func73,ntmps73;go_wp2;go_ret2;exact ⟨bR _ _,none,HN.o,rfl⟩
  .
   have q2:=df (8<(n:Int));have ww:IntKind.i64.wrap (7*(n:Int))=7*(n:Int):=Zq
   have d4:IntKind.i64.wrap (9+7*(n:Int))=((9+7*n:Nat):Int):=Zq
   by_cases cl:b.length<9+7*n
   .
    have q3:=dt (b.length<9+7*n);have HN:=Zz (reads_short (b:=b) (.inr (.inl (by rw [HG.o,hnn];exact cl))));generalize 9+7*n=t at *;go_enter func73,ntmps73;go_wp2;go_ret2;exact ⟨bR _ _,none,HN.o,rfl⟩
   .
    have q3:=df (b.length<9+7*n);have d_:Hid (parse b=secs n (b.drop 6) (b.drop (9+7*n))):=by
     refine Zz ?_;unfold parse;rw [HG.o,hnn]
    have v_:Hid (secs n (b.drop 6) (b.drop (9+7*n))=(secs (n - 0) (b.drop (6+7*0)) (b.drop (9+7*n))).map ([] ++ ·)):=by
     refine Zz ?_;simp
    have b5:9+7*n<=b.length:=by omega
    generalize ht:9+7*n=t0 at *;have HT:=Zz ht;clear ht;have c7:=HR;clear cl hnn a4;go_enter func73,ntmps73;go_wp2_with fail;go_loopw [5,6,7] (fun v5 v6 vi wr=>∃ (k t:Nat) (ls:List Sec),k<=n/\vi=.int .i64 k/\v5=.int .i64 t/\t<=b.length/\Hid (t=t0+total ls)/\Hid (secs n (b.drop 6) (b.drop t0)=(secs (n - k) (b.drop (6+7*k)) (b.drop t)).map (ls ++ ·))/\ls.length=k /\
     Hid (secK.own 82 wr w.heap.size (fun k=>w.heap.size<=k) v6 ls)/\Hid (Below w.heap.size w wr)) (fun _ _ vi _=>n - (intOf vi).toNat)
    case atStart=>exact ⟨0,t0,[],by omega,rfl,rfl,b5,Zz (by simp [total]),v_,rfl,Zz (Kd.own_nil _ _ _ _ _),Zz (bR _ _)⟩
    case round =>
     clear v_;obtain ⟨k,t,ls,hk,rfl,rfl,d3,t_,HI,d6,HO,HB⟩:=hrel;by_cases hlt:k<n
     .
      have a7:decide (k<n)=true:=dT hlt;obtain ⟨m,hm⟩:∃ m,n - k=m+1:=⟨n - k - 1,by omega⟩;rw [hm] at HI;have w7:IntKind.i64.wrap (7*(k:Int))=7*(k:Int):=Zq
      have w6:IntKind.i64.wrap (6+7*(k:Int))=((6+7*k:Nat):Int):=Zq
      have h6:6+7*k+10<=b.length:=by have:=HT.o;omega
      have wt:IntKind.i64.wrap ((b.length:Int) - (t:Int))=(b.length:Int) - (t:Int):=Zq
      obtain ⟨A1,-,f_,-,c_⟩:=Kd.cut_run (P:=Tryz.prog) byteK 55 5 underlying55 cellsB (.int .u8 0) 1 info_u8 (some ⟨ba,l_,none⟩) b.length c (6+7*k) b.length (by omega) (lR _) h1 HC.o h3;have c4:=fun (kl:IntKind) (w:World)=>f_ kl w rfl
      have j_:=Zz (c_ w _ b rfl HR.o);rw [List.take_length] at j_;rw [show b.length - (6+7*k)=(b.drop (6+7*k)).length by simp] at *;clear f_ c_;have c3:Hid (b.drop (6+7*(k+1))=(b.drop (6+7*k)).drop 7):=by
       refine Zz ?_;rw [List.drop_drop,show 6+7*(k+1)=6+7*k+7 by omega]
      have d7:10<=(b.drop (6+7*k)).length:=by simp;omega
      generalize b.drop (6+7*k)=hs at *;generalize 6+7*k=q at *;generalize c - q=cq at *;have wq:(0:Int)<=(q:Int):=by omega
      obtain ⟨d8,d1,he,_,_,_,gr⟩:=j_.o;simp at he;obtain ⟨rfl,rfl⟩:=he;obtain ⟨gh,oh,rfl,a_⟩:=u8_plain gr (by omega);have hm:=fun i (hi:i<hs.length)=>cell_same (a_ i hi) (HB.o.block _ (cell_lt (a_ i hi)))
      have a2:=hm 0 (by omega);have a5:=hm 1 (by omega);have b7:=hm 2 (by omega);have a9:=hm 3 (by omega);rw [Nat.add_zero] at a2;have HK:Hid (∀ W,Below w.heap.size w W->W.cell? ⟨gh,oh,none⟩=some (.int .u8 (hs[0].toNat:Int))):=
       Zz (fun W h=>by have:=cell_same (a_ 0 (by omega)) (h.block _ (cell_lt (a_ 0 (by omega))));rwa [Nat.add_zero] at this)
      have z_:=Zz (getD_at hs 0 (by omega));have d0:=(num_cells (h:=hs) (by omega)).symm;have b4:=num_lt (hs.drop 1);have a0:=Zz (secs_step m hs (b.drop t));have q_:=Zz (secs_stop m hs (b.drop t));clear hm a_ gr j_;generalize num (hs.drop 1)=sz at *;have b1:=hs[1].toNat_lt;have b2:=hs[2].toNat_lt;have b3:=hs[3].toNat_lt;have b0:=hs[0].toNat_lt;generalize hs[0]=x0 at *;generalize hs[1]=x1 at *;generalize hs[2]=x2 at *;generalize hs[3]=x3 at *;have v1:IntKind.i64.wrap (x1.toNat:Int)=(x1.toNat:Int):=Zq
      have v2:IntKind.i64.wrap (x2.toNat:Int)=(x2.toNat:Int):=Zq
      have v3:IntKind.i64.wrap (x3.toNat:Int)=(x3.toNat:Int):=Zq
      have v4:IntKind.i64.wrap ((x1.toNat:Int)*65536)=(x1.toNat:Int)*65536:=Zq
      have v5:IntKind.i64.wrap ((x2.toNat:Int)*256)=(x2.toNat:Int)*256:=Zq
      have j1:(1:Int)<(hs.length:Int):=by omega
      have j2:(2:Int)<(hs.length:Int):=by omega
      have j3:(3:Int)<(hs.length:Int):=by omega
      go_wp2_with fail;go_quiet (fail);by_cases hsz:b.length - t<sz
      .
       have hd:=dt ((b.length:Int) - (t:Int)<(sz:Int));have HN:Hid (Reads b none):=Zz (reads_of_parse_none (by rw [d_.o,HI.o,q_.o (by simp;omega)];rfl));go_wp2_with fail;go_ret2;exact ⟨bel_drewN HB.o _,none,HN.o,rfl⟩
      .
       have hd:=df ((b.length:Int) - (t:Int)<(sz:Int));clear j1 j2 j3 v1 v2 v3 v4 v5 b1 b2 b3 a5 b7 a9 a2;have h_:=Zz (a0.o (by simp;omega));rw [z_.o] at h_;obtain ⟨A2,f_,-,-,c_⟩:=Kd.cut_run (P:=Tryz.prog) byteK 55 5 underlying55 cellsB (.int .u8 0) 1 info_u8 (some ⟨ba,l_,none⟩) b.length c t (t+sz) (by omega) (by omega) h1 HC.o h3;have HQ:=Zz (c_ w _ b rfl HR.o);have hq:∀ (kl kh:IntKind) (w:World),(Instr.slice 55 (.slice (some ⟨ba,l_,none⟩) b.length c) (some (.int kl t)) (some (.int kh (t+sz))) none).run Tryz.prog w=.ok (.slice A2 sz (c - t)) w:=fun kl kh w=>by
        have:=f_ kl kh w
        rwa [Nat.add_sub_cancel_left,Int.natCast_add] at this
       have a1:(b.take (t+sz)).drop t=(b.drop t).take sz:=by rw [List.drop_take,Nat.add_sub_cancel_left]
       rw [a1,Nat.add_sub_cancel_left] at HQ;have a8:((b.drop t).take sz).length=sz:=by simp;omega
       have p_:Hid (secs n (b.drop 6) (b.drop t0)=(secs m (hs.drop 7) (b.drop (t+sz))).map ((ls++[((x0.toNat:Int),(b.drop t).take sz)]) ++ ·)):=by
        refine Zz ?_;rw [HI.o,h_.o,Option.map_map,List.drop_drop];congr 1;funext q;simp
       rw [<- c3.o] at p_;clear f_ c_ a0 q_ h_ HI z_ a1;generalize (b.drop t).take sz=body at *;subst a8;have d2:IntKind.i64.wrap ((t:Int)+(body.length:Int))=(t:Int)+(body.length:Int):=Zq
       have n_:Hid (t+body.length=t0+total (ls++[((x0.toNat:Int),body)])):=Zz (by rw [total_append,t_.o];simp [total];omega);have k_:t+body.length<=b.length:=by omega
       have wx:IntKind.i64.wrap (x0.toNat:Int)=(x0.toNat:Int):=Zq
       have d5:0<hs.length:=by omega
       have c5:(0:Int)<=(t:Int):=by omega
       generalize c - t=ct at *;go_wp2_with fail;generalize hwy:World.drewN _ _=wy at *;have o_:Hid (secK.own 82 wy w.heap.size (fun k=>w.heap.size<=k) u6 ls):=Zz (by subst hwy;exact Kd.own_move (w:=wr) (fun _ _ _=>rfl) HO.o);have s_:Hid (Below w.heap.size w wy):=Zz (by subst hwy;exact bel_drewN HB.o _);clear hwy HO HB;go_cut [6] (fun v6 wx=>Hid (secK.own 82 wx w.heap.size (fun k=>w.heap.size<=k) v6 (ls++[((x0.toNat:Int),body)]))/\Hid (Below w.heap.size w wx))
       case first =>
        have hB:=s_.o;have hY:=bR wy.heap.size wy;have hQ:=byteK.sl.M_old HQ.o hB;go_region_held3 (fun w'=>w'.cell? ⟨gh,oh,none⟩=some (.int .u8 (x0.toNat:Int)))
         (exact HK.o _ (by (repeat (first | assumption | refine bel_alloc ?_ _ | refine bel_drew ?_))))
         (first
          | (refine Kd.own_app_step byteK (w0:=wy) wy.heap.size (by rfl) (.tmp 70) (.tmp 76) 55 5 (.int .u8 0) 1 (by rfl) underlying55 info_u8 rfl (by decide) (.slice (some ⟨wy.heap.size,0,none⟩) 0 0) [] body A2 ct T (by rfl) (by rfl) ?ho (.inr ⟨?hr,any_u8⟩) ?hb ?hs ?hl ?_;go_loud (case hl=>simp;omega);go_loud (case ho=>repeat (first | exact Kd.own_block (cells:=[]) (xs:=[]) (lR _) (Kd.heap_new _ _) rfl (by simp) (fun i x h=>by simp at h) | refine Kd.own_drew ?_ | refine Kd.own_alloc ?_ _));go_loud (case hr=>exact byteK.sl.mono (fun _ _ _=>trivial) (byteK.sl.M_old HQ.o (by (repeat (first | assumption | refine bel_alloc ?_ _ | refine bel_drew ?_)))));go_loud (case hb=>repeat (first | assumption | refine bel_alloc ?_ _ | refine bel_drew ?_));go_loud (case hs=>simp);intro v1 w1 ho1 e_ hg1 hv1;go_loud (rw [Zf] at ho1);obtain ⟨A9,c9,rfl,_,_⟩:=Kd.own_slice ho1;have c0:=Zz ho1;have b8:Below w.heap.size w w1:=bel_step hB e_;have a6:=Zz (Kd.own_below o_.o e_);clear ho1 hg1 hv1)
          | (refine Kd.own_app_step secK (w0:=w) w.heap.size (by rfl) (.tmp 65) (.tmp 79) 84 82 (.agg #[.int .i64 0,.slice none 0 0]) 32 (by rfl) underlying84 info_sec rfl (by decide) u6 ls [((x0.toNat:Int),body)] (some ⟨w1.heap.size,0,none⟩) 1 (fun k=>w.heap.size<=k) (by rfl) (by rfl) ?ho (.inl ?hr) ?hb ?hs ?hl ?_;go_loud (case hl=>simp;omega);go_loud (case ho=>repeat (first | exact a6.o | refine Kd.own_alloc ?_ _ | refine Kd.own_drew ?_));go_loud (case hr=>exact sec_row c0.o hB.size (fun k hk=>(Kd.own_lt o_.o k hk).2) e_.size ⟨by omega,by omega⟩ (by (repeat (first | exact bR _ _ | refine bel_alloc ?_ _ | refine bel_drew ?_))) (by repeat (first | exact Kd.bi_new (by simp) | refine Kd.bi_old ?_ | refine Kd.bi_drew ?_)));go_loud (case hb=>repeat (first | assumption | refine bel_alloc ?_ _ | refine bel_drew ?_));go_loud (case hs=>have:=b8.size;simp;omega);intro v4 w4 ho4 hb4 hg4 hv4;have b9:=Zz ho4;clear ho4 hg4 hv4)
          | fail)
        go_wp2_with fail;go_meet;exact ⟨b9,Zz hb4⟩
       case rest =>
        obtain ⟨HO,HB⟩:=hcut;clear o_ s_;go_wp2_with fail;go_roundw
        case rel=>exact ⟨k+1,t+body.length,ls++[((x0.toNat:Int),body)],by omega,by go_num,by go_num,k_,n_,Zz (by rw [p_.o,show n - (k+1)=m by omega]),by simp;omega,HO,HB⟩
        case measure=>simp [intOf];omega
     .
      obtain rfl:k=n:=by omega
      have a7:decide (k<k)=false:=by simp
      have c1:Hid (parse b=some ls):=Zz (by rw [d_.o,HI.o,Nat.sub_self];simp [secs]);have y_:=Zz (reads_of_parse c1.o);have r_:Hid (secK.sl.M wr T ls [u6]):=Zz (Kd.own_sl HO.o (fun _ _=>trivial) (fun _ _=>trivial));have w_:=Zz (refpack_calls ls (by have:=t_.o;omega) (by omega) u6 wr r_.o);go_wp2_with fail;refine w_.o.mono ?_;clear w_ r_;rintro e w1 ⟨e_,b6⟩;have g_:=Zz (bel_step HB.o e_);have c2:=Zz (Kd.own_below HO.o e_);rcases b6 with ⟨hMay,vp,rfl,hop⟩ | ⟨hMay,rfl⟩
      .
       have a3:=Zz hop;clear hop e_;have m_:=Zz hMay;clear hMay;have b_:Hid (Reads b (if file ls=b then some ls else none)):=Zz (by
        have:=y_.o;by_cases hf:file ls=b
        .
         rw [if_pos ⟨m_.o,hf⟩] at this;rw [if_pos hf];exact this
        .
         rw [if_neg (fun h=>hf h.2)] at this;rw [if_neg hf];exact this)
       generalize file ls=fl at *;obtain ⟨Ap,cp,x_,_,_,_,u_⟩:=Kd.own_sl (ok':=T) a3.o (fun _ _=>trivial) (fun _ _=>trivial);simp at x_;subst x_;have k1:=conv_string (P:=Tryz.prog) (w:=w1) (c:=cp) underlying55 underlying5 underlying9 u_;have k2:=conv_string (P:=Tryz.prog) (w:=w1) (c:=c) underlying55 underlying5 underlying9 (Kd.row_old HR.o g_.o);have he:=mkS_beq fl b;clear u_;by_cases hf:fl=b
       .
        have hd:(fl==b)=true:=by simp [hf]
        rw [if_pos hf] at b_;rw [hd] at he;generalize mkS fl=s1 at *;generalize mkS b=s2 at *;clear hf hd;go_wp2_with fail;go_ret2;exact ⟨g_.o,some ls,b_.o,_,rfl,c2.o⟩
       .
        have hd:(fl==b)=false:=by simp [hf]
        rw [if_neg hf] at b_;rw [hd] at he;generalize mkS fl=s1 at *;generalize mkS b=s2 at *;clear hf hd;go_wp2_with fail;go_ret2;exact ⟨g_.o,none,b_.o,rfl⟩
      .
       have b_:Hid (Reads b none):=Zz (by
        have:=y_.o
        rwa [if_neg (fun h=>hMay h.1)] at this)
       go_wp2_with fail;go_ret2;exact ⟨g_.o,none,b_.o,rfl⟩
end BoxRefUn
namespace Ref6
open Go.RowKit Go.Lib B Rd StoreW Clones FrontP FrontW
theorem good_may {l:List (List UInt8)} (h:MayF l):∀ i,GoodF l i:=fun i hi=>by
 obtain ⟨h1,h2⟩:=h.2.1 _ (Zm hi)
 refine ⟨h1,h2,fun h0=>?_⟩
 exact List.pairwise_iff_getElem.1 h.2.2 (i - 1) i (by omega) hi (by omega)
theorem may6_calls (l:List (List UInt8)) (hl:l.length<=140737488355328) (hs:∀ x∈l,x.length<=140737488355328) (A:Option Addr) (c:Nat) (w:World) (HL:strK.sl.M w (fun _=>True) (strs l) [.slice A l.length c]) :
  Calls Tryz.prog 38 #[.slice A l.length c] w fun e w'=>(∃ r:Bool,e=.returned (.bool r)/\(r=true↔MayF l))/\Below w.heap.size w w':=by
 have g_:=Zz (fun hp=>str_cells HL hp);have HS:=Zz hs;have HM:=Zz (good_may (l:=l));have n_:=Zz (may_good (l:=l));clear hs HL;go_enter func38,ntmps38;go_wp2;go_loopw [3] (fun vk wr=>∃ k:Nat,vk=.int .i64 k/\k<=l.length/\Hid ((∀ i,i<k->GoodF l i)/\Below w.heap.size w wr)) (fun vk _=>l.length - (intOf vk).toNat)
 case atStart=>exact ⟨0,rfl,by omega,Zz ⟨fun i h=>by omega,bR _ _⟩⟩
 case round =>
  obtain ⟨k,rfl,hk,HI⟩:=hrel;by_cases hlt:k<l.length
  .
   have r_:decide (k<l.length)=true:=dT hlt;have ik:(k:Int)<(l.length:Int):=by omega
   obtain ⟨b,k_,rfl,_,j_,a_⟩:=g_.o (by omega);have i_:=(HI.o.2.cell (p:=⟨b,k_+k,none⟩) j_).trans (a_ k hlt);obtain ⟨x,hx⟩:∃ x,x=l[k]:=⟨_,rfl⟩;rw [<- hx] at i_;have h_:=HS.o x (by rw [hx];exact Zm hlt);have zx:=mkS_size x;have tx:=mkS_toList x;have HX:=Zz hx;have f_:=Zz (fun q=>bel_drewN HI.o.2 q);have b_:=Zz (fun (h:¬ GoodF l k) (hm:MayF l)=>h (HM.o hm k));clear hx;by_cases hem:x.length<1
   .
    have e1:=dt ((x.length:Int)<1);have HF:Hid (¬ MayF l):=Zz (b_.o (fun h=>by have:=(h hlt).1;rw [<- HX.o] at this;exact this (Zn (by omega))));clear a_;go_upto_region 4 with fail
    go_quiet (fail);go_wp2;go_ret;exact ⟨⟨false,rfl,by simp [HF.o]⟩,f_.o _⟩
   have e1:=df ((x.length:Int)<1);by_cases hbig:250<x.length
   .
    have e2:=dt ((250:Int)<(x.length:Int));have HF:Hid (¬ MayF l):=Zz (b_.o (fun h=>by have:=(h hlt).2.1;rw [<- HX.o] at this;omega));clear a_;go_upto_region 4 with fail
    go_quiet (fail);go_wp2;go_ret;exact ⟨⟨false,rfl,by simp [HF.o]⟩,f_.o _⟩
   have e2:=df ((250:Int)<(x.length:Int));by_cases h0:k=0
   .
    subst h0;have e_:Hid (∀ i,i<1->GoodF l i):=Zz (fun i hi h=>by
     have:i=0:=by omega
     subst this;rw [<- HX.o];exact ⟨fun e=>by rw [e] at hem;simp at hem,by omega,fun h'=>absurd h' (Nat.lt_irrefl 0)⟩)
    clear a_;simp only [Nat.add_zero] at i_;go_upto_region 4 with fail
    go_quiet (fail);go_wp2;go_roundw
    case rel=>exact ⟨1,by go_num,by omega,Zz ⟨e_.o,f_.o _⟩⟩
    case measure=>simp [intOf];omega
   .
    have q_:0<k:=by omega
    have s_:decide (0<k)=true:=dT q_;have u_:=dt ((0:Int)<(k:Int));obtain ⟨j,hj⟩:∃ j,j=k - 1:=⟨_,rfl⟩;have t_:IntKind.i64.wrap ((k:Int) - 1)=(j:Int):=Zq
    have ij:(j:Int)<(l.length:Int):=by omega
    have p_:j<l.length:=by omega
    have m_:=(HI.o.2.cell (p:=⟨b,k_+j,none⟩) j_).trans (a_ j p_);obtain ⟨y,hy⟩:∃ y,y=l[j]:=⟨_,rfl⟩;rw [<- hy] at m_;have ty:=mkS_toList y;have HY:=Zz hy;have HJ:=Zz hj;clear hy hj a_;by_cases hyx:y<x
    .
     have d_:Op.bytesLess (mkS y).toList (mkS x).toList=true:=by rw [Cmp.less_eq];exact dT hyx
     have c_:Op.bytesLess y x=true:=by rw [Go.Proofs.bytesLess_eq];exact dT hyx
     have e_:Hid (∀ i,i<k+1->GoodF l i):=Zz (fun i hi=>by
      by_cases hik:i<k
      .
       exact HI.o.1 i hik
      .
       have:i=k:=by omega
       subst this;intro h;refine ⟨by rw [<- HX.o];intro e;rw [e] at hem;simp at hem,by rw [<- HX.o];omega,fun h'=>?_⟩;have e:l[i - 1]=l[j]:=by congr 1;exact HJ.o.symm
       rw [<- HX.o,e,<- HY.o];exact hyx)
     clear hyx h_;go_upto_region 4 with fail
     go_quiet (fail);go_wp2;go_roundw
     case rel=>exact ⟨k+1,by go_num,by omega,Zz ⟨e_.o,f_.o _⟩⟩
     case measure=>simp [intOf];omega
    .
     have d_:Op.bytesLess (mkS y).toList (mkS x).toList=false:=by rw [Cmp.less_eq];exact dF hyx
     have c_:Op.bytesLess y x=false:=by rw [Go.Proofs.bytesLess_eq];exact dF hyx
     have HF:Hid (¬ MayF l):=Zz (b_.o (fun h=>by
      have h1:=(h hlt).2.2 (by omega);have e:l[k - 1]=l[j]:=by congr 1;exact HJ.o.symm
      rw [<- HX.o,e,<- HY.o] at h1;exact hyx h1))
     clear hyx h_;go_upto_region 4 with fail
     go_quiet (fail);go_wp2;go_ret;exact ⟨⟨false,rfl,by simp [HF.o]⟩,f_.o _⟩
  .
   have r_:decide (k<l.length)=false:=dF hlt;have l_:=Zz HI.o.2;have e_:=Zz (fun (h3:l.length<=300)=>n_.o h3 (fun i hi=>HI.o.1 i (by omega)));have o_:=Zz (fun (h:MayF l)=>h.1);clear HI;by_cases h3:l.length<=300
   .
    have e3:=dt ((l.length:Int)<=300);go_wp2;go_ret;exact ⟨⟨true,rfl,by simp [e_.o h3]⟩,l_.o⟩
   .
    have e3:=df ((l.length:Int)<=300);go_wp2;go_ret;exact ⟨⟨false,rfl,⟨fun h=>(by cases h),fun h=>absurd (o_.o h) h3⟩⟩,l_.o⟩
end Ref6
namespace Ref6
open Go.RowKit Go.Lib B Rd StoreW Clones FrontP FrontW BoxWalk BoxUnpack
def RdPost6 (b:List UInt8) (w:World) (e:Ending) (w':World):Prop:=
 (∃ r,ReadsF b r/\match r with
  | none=>e=.returned (.tuple #[.slice none 0 0,.int .i64 2])
  | some L=>∃ A c,e=.returned (.tuple #[.slice A L.length c,.int .i64 0])/\strK.sl.M w' (fun _=>True) (strs L) [.slice A L.length c])/\Below w.heap.size w w'
theorem read6_calls (b:List UInt8) (hb:b.length<=100000) (A:Option Addr) (c:Nat) (w:World) (HL:byteK.sl.M w (fun _=>True) b [.slice A b.length c]) :
  Calls Tryz.prog 74 #[.slice A b.length c] w (RdPost6 b w):=by
 have HM:=Zz (Kd.M_bound HL);obtain ⟨A',c',hv,h1,h2,h3,b9⟩:=HL;obtain ⟨rfl,rfl⟩:A=A'/\c=c':=by simpa using hv
 have HR:=Zz (Kd.row_mono (ok':=fun k=>k<w.heap.size) (fun k _ hk=>hk) b9);clear b9;by_cases c2:b.length<2
 .
  have q1:=dt ((b.length:Int)<2);have HN:=Zz (readsF_fail (b:=b) (by unfold parseF;rw [if_pos c2]));go_enter func74,ntmps74;go_wp2;go_ret2;exact ⟨⟨none,HN.o,rfl⟩,bR _ _⟩
 have q1:=df ((b.length:Int)<2);obtain ⟨ba,q_,rfl,b_⟩:=u8_plain HR.o (by omega);have e8:=b_ 0 (by omega);have g5:=b_ 1 (by omega);rw [Nat.add_zero] at e8;obtain ⟨n,hn⟩:∃ n,n=countF b:=⟨_,rfl⟩;have d_:Hid (parseF b=readN n [] (b.drop 2)):=Zz (by unfold parseF;rw [if_neg c2,hn]);have l0:=b[0].toNat_lt;have l1:=b[1].toNat_lt;have a2:b[0].toNat*256+b[1].toNat=n:=by
  rw [hn];unfold countF;rw [List.getD_eq_getElem?_getD,List.getD_eq_getElem?_getD,Zg (by omega),Zg (by omega)];simp
 obtain ⟨p0,d7⟩:∃ p0,p0=b[0].toNat:=⟨_,rfl⟩;obtain ⟨p1,b7⟩:∃ p1,p1=b[1].toNat:=⟨_,rfl⟩;rw [<- d7] at e8 a2 l0;rw [<- b7] at g5 a2 l1;have i0:(0:Int)<(b.length:Int):=by omega
 have i1:(1:Int)<(b.length:Int):=by omega
 have i9:Go.bits .or .i64 ((p0:Int)*256) (p1:Int)=(n:Int):=by
  have g8:∀ n:Int,0<=n->n<2^63->IntKind.i64.wrap n=n:=fun n h0 h1=>by rw [Zw];omega
  rw [bits_join .i64 63 (by decide) g8 8 ((p0:Int)*256) (p1:Int) (by omega) (by omega) (by omega) (by omega) (by omega) (by omega)];omega
 have j7:IntKind.i64.wrap ((p0:Int)*256)=(p0:Int)*256:=Zq
 have i7:n<=65535:=by omega
 have a_:=Zz b_;clear b_ hn d7 b7 a2;go_enter func74,ntmps74;go_upto_region 3 with fail
 go_quiet (fail);obtain ⟨R0,a4⟩:∃ R0,R0=b.drop 2:=⟨_,rfl⟩;rw [<- a4] at d_;have f2:=Zz a4;clear a4;have c6:Hid (readN n [] R0=(readN (n - 0) [] (b.drop 2)).map (([]:List (List UInt8)) ++ ·)):=Zz (by
  rw [<- f2.o];cases h:readN n [] R0 <;> simp [h])
 go_wp2;go_loopw [5,6,7,8] (fun v5 v6 v7 vk wr=>∃ (k d:Nat) (last:List UInt8) (ls:List (List UInt8)),vk=.int .i64 k/\k<=n/\v6=.int .i64 d/\d<=b.length/\v7=.string (mkS last)/\last.length<=510/\2*k<=d/\Hid (ls.length=k)/\Hid (readN n [] R0=(readN (n - k) last (b.drop d)).map (ls ++ ·))/\Hid (∀ x∈ls,x.length<=510)/\Hid (strK.own 9 wr w.heap.size TT v5 (strs ls))/\Hid (Below w.heap.size w wr)) (fun _ _ _ vk _=>n - (intOf vk).toNat)
 case atStart=>exact ⟨0,2,[],[],rfl,by omega,rfl,by omega,rfl,by simp,by omega,Zz rfl,c6,Zz (fun x hx=>by cases hx),Zz (Kd.own_nil _ _ _ _ _),Zz (by repeat (first | exact bR _ _ | refine bel_drewN ?_ _ | refine bel_drew ?_))⟩
 case round =>
  obtain ⟨k,d,last,ls,rfl,hk,rfl,j3,rfl,d5,h9,h_,HI,c3,HO,HB⟩:=hrel;clear c6;by_cases hlt:k<n
  .
   have hd:=dt ((k:Int)<(n:Int));have f5:decide (k<n)=true:=dT hlt;obtain ⟨m,hm⟩:∃ m,n - k=m+1:=⟨n - k - 1,by omega⟩;have d0:n - (k+1)=m:=by omega
   rw [hm] at HI;have f9:=Zz d0;clear hm d0;have zl:=mkS_size last;obtain ⟨r,hr⟩:∃ r,r=b.length - d:=⟨_,rfl⟩;have l_:(b.drop d).length=r:=by rw [hr];simp
   have d4:IntKind.i64.wrap ((b.length:Int) - (d:Int))=(r:Int):=Zq
   have j8:r+d<=b.length:=by omega
   have j2:b.length<=r+d:=by omega
   clear hr;by_cases hsh:r<2
   .
    have hN:=readN_short (n:=m) (last:=last) (rs:=b.drop d) (by omega);have HF:=Zz (readsF_fail (b:=b) (by rw [d_.o,HI.o,hN];rfl));have e1:=dt ((r:Int)<2);have f3:=dt ((b.length:Int) - (d:Int)<2);clear hN l_;go_wp2;go_ret2;exact ⟨⟨none,HF.o,rfl⟩,HB.o⟩
   have e1:=df ((r:Int)<2);have f3:=df ((b.length:Int) - (d:Int)<2);obtain ⟨r0,r1,rest,k_⟩:∃ r0 r1 rest,b.drop d=r0::r1::rest:=by
    match hh:b.drop d,l_ with
    | [],h=>exact absurd h (by simp;omega)
    | [a],h=>exact absurd h (by simp;omega)
    | a::b'::l,_=>exact ⟨a,b',l,rfl⟩
   obtain ⟨d1,i3⟩:∃ d1,d1=d+1:=⟨_,rfl⟩;have g0:b[d]'(by omega)=r0:=by
    have h:=List.getElem_drop (xs:=b) (i:=d) (j:=0) (h:=by rw [l_];omega);simp only [k_,List.getElem_cons_zero,Nat.add_zero] at h;exact h.symm
   have g1:b[d1]'(by omega)=r1:=by
    have h:=List.getElem_drop (xs:=b) (i:=d) (j:=1) (h:=by rw [l_];omega);simp only [k_,List.getElem_cons_succ,List.getElem_cons_zero] at h;rw [h];congr 1
   have x0:=(HB.o.cell (p:=⟨ba,q_+d,none⟩) (cell_lt (a_.o d (by omega)))).trans (a_.o d (by omega));have x1:=(HB.o.cell (p:=⟨ba,q_+d1,none⟩) (cell_lt (a_.o d1 (by omega)))).trans (a_.o d1 (by omega));have b5:=Zz (fun W (hb:Below w.heap.size w W)=>(hb.cell (p:=⟨ba,q_+d1,none⟩) (cell_lt (a_.o d1 (by omega)))).trans (a_.o d1 (by omega)));rw [g0] at x0;rw [g1] at x1 b5;have b3:rest.length+2=r:=by rw [<- l_,k_];rfl
   have t0:=r0.toNat_lt;have t1:=r1.toNat_lt;obtain ⟨p,hp⟩:∃ p,p=r0.toNat:=⟨_,rfl⟩;obtain ⟨q,hq⟩:∃ q,q=r1.toNat:=⟨_,rfl⟩;have v_:=Zz (readN_no (n:=m) (last:=last) (r0:=r0) (r1:=r1) (rest:=rest));have i_:=Zz (readN_two (n:=m) (last:=last) (r0:=r0) (r1:=r1) (rest:=rest));rw [<- hp,<- hq] at v_ i_;rw [<- hp] at x0 t0;rw [<- hq] at x1 t1 b5;rw [k_] at HI;obtain ⟨ml,a7⟩:∃ ml,ml=rest.length:=⟨_,rfl⟩;rw [<- a7] at v_ i_;have a0:=Zz k_;have f4:=Zz a7;have j4:ml+2<=r:=by omega
   have j6:r<=ml+2:=by omega
   obtain ⟨d2,p_⟩:∃ d2,d2=d+2:=⟨_,rfl⟩;obtain ⟨d3,r_⟩:∃ d3,d3=d+2+q:=⟨_,rfl⟩;have w1:IntKind.i64.wrap ((d:Int)+1)=(d1:Int):=Zq
   have w2:IntKind.i64.wrap ((d:Int)+2)=(d2:Int):=Zq
   have w3:IntKind.i64.wrap ((d2:Int)+(q:Int))=(d3:Int):=Zq
   have w4:IntKind.i64.wrap ((r:Int) - 2)=(ml:Int):=Zq
   have j0:(d:Int)<(b.length:Int):=by omega
   have j1:(d1:Int)<(b.length:Int):=by omega
   have j_:=Zz p_;have f_:=Zz r_;clear l_ k_ b3 hp hq a7 g0 g1 i3 p_ r_ hsh;by_cases hbad:last.length<p
   .
    have HF:=Zz (readsF_fail (b:=b) (by rw [d_.o,HI.o,v_.o (fun h=>by omega)];rfl));have e2:=dt ((last.length:Int)<(p:Int));go_wp2;go_ret2;exact ⟨⟨none,HF.o,rfl⟩,HB.o⟩
   have e2:=df ((last.length:Int)<(p:Int));by_cases hbad2:ml<q
   .
    have HF:=Zz (readsF_fail (b:=b) (by rw [d_.o,HI.o,v_.o (fun h=>by omega)];rfl));have e3:=dt ((ml:Int)<(q:Int));have e4:=dt ((b.length:Int) - (d:Int) - 2<(q:Int));go_wp2;go_ret2;exact ⟨⟨none,HF.o,rfl⟩,HB.o⟩
   have e3:=df ((ml:Int)<(q:Int));have e4:=df ((b.length:Int) - (d:Int) - 2<(q:Int));obtain ⟨Ac,o_,-,-,g_⟩:=Kd.cut_run (P:=Tryz.prog) byteK 55 5 underlying55 cellsB (.int .u8 0) 1 PackW.info_u8 (some ⟨ba,q_,none⟩) b.length c d2 d3 (by have:=j_.o;have:=f_.o;omega) (by have:=f_.o;omega) h1 h2 h3;obtain ⟨X1,w_⟩:∃ X1,X1=last.take p:=⟨_,rfl⟩;obtain ⟨X2,u_⟩:∃ X2,X2=rest.take q:=⟨_,rfl⟩;obtain ⟨X,hX⟩:∃ X,X=X1++X2:=⟨_,rfl⟩;have g2:X1.length=p:=by rw [w_];simp;omega
   have f6:X2.length=q:=by rw [u_];simp;have:=f4.o;omega
   have b2:X.length<=510:=by rw [hX,Zl];omega
   have a9:rest=b.drop d2:=by
    have h:=congrArg (List.drop 2) a0.o;rw [List.drop_drop,j_.o] at *;exact h.symm
   have s_:b.drop d3=rest.drop q:=by
    rw [a9,List.drop_drop,f_.o,j_.o]
   have f8:Hid (readN n [] R0=(readN (n - (k+1)) X (b.drop d3)).map ((ls++[X]) ++ ·)):=Zz (by
    rw [HI.o,i_.o (by omega) (by omega),f9.o,<- w_,<- u_,<- hX,s_,Option.map_map];congr 1;funext l;simp)
   have e7:(b.take d3).drop d2=X2:=by
    have g7:d3=d2+q:=by have:=j_.o;have:=f_.o;omega
    rw [u_,a9,g7,List.drop_take];congr 1;omega
   have a8:=g_ wr (fun k=>k<w.heap.size) b rfl (Kd.row_old HR.o HB.o);rw [e7,show d3 - d2=X2.length by have:=j_.o;have:=f_.o;omega] at a8;have d9:Hid (∀ nq,(convert 55 9 (.slice Ac X2.length (c - d2))).run Tryz.prog (wr.drewN nq)=.ok (.string (mkS X2)) (wr.drewN nq)):=Zz (fun nq=>BytesEq.conv_bytes (Kd.M_below a8 (bel_drewN (bR _ _) nq)));have i5:∀ (kl kh:IntKind) (w:World),(Instr.slice 55 (.slice (some ⟨ba,q_,none⟩) b.length c) (some (.int kl (d2:Int))) (some (.int kh (d3:Int))) none).run Tryz.prog w=.ok (.slice Ac X2.length (c - d2)) w:=fun kl kh w=>by
    have h:=o_ kl kh w;rw [show d3 - d2=X2.length by have:=j_.o;have:=f_.o;omega] at h;exact h
   have i2:mkS X1++mkS X2=mkS X:=by rw [hX,mkS_append]
   have z1:=mkS_size X1;have z2:=mkS_size X2;have i8:(mkS last).extract 0 p=mkS X1:=by rw [mkS_extract,w_];simp
   have f1:=d9.o;have ip:(p:Int)<=(last.length:Int):=by omega
   have h8:Hid (∀ x∈ls++[X],x.length<=510):=Zz (fun x hx=>by
    rcases Zk.1 hx with h | h
    .
     exact c3.o x h
    .
     simp at h;subst h;exact b2)
   have e0:=Zz b2;have g3:X2.length<=255:=by omega
   have f0:X1.length<=255:=by omega
   have a6:d3<=b.length:=by have:=f_.o;omega
   have z_:2*(k+1)<=d3:=by have:=f_.o;omega
   clear o_ g_ w_ u_ hX g2 f6 a8 e7 a9 s_ b2;go_upto_region 12 with fail
   go_quiet (fail);have c0:=Zz (bel_drewN HB.o nq);have e9:=Zz (Kd.own_below HO.o (bel_drewN (bR _ _) nq));have b8:=Zz (strs_add ls X);have g6:(strs ls).length<=50000:=by rw [strs_len,h_.o];omega
   obtain ⟨A4,c4,rfl,_,_⟩:=Kd.own_slice HO.o;obtain ⟨Y,a5⟩:∃ Y,Y=strs ls:=⟨_,rfl⟩;rw [<- a5] at HO b8 g6 e9;rw [<- a5];clear a5 x0 x1 f1 d9 HO HB;generalize wr.drewN nq=wq at *;have zX:=mkS_size X;have i4:Hid ((mkS X).size<=140737488355328):=Zz (by rw [zX];have:=e0.o;omega);go_wp2_with (at_builtin;refine Kd.own_app1 strK (w0:=w) w.heap.size rfl (.tmp 78) (.tmp 80) 51 9 zero_str 16 rfl underlying51 info_str rfl (by decide) _ Y (mkS X) [.string (mkS X)] Clones.TT (by rfl) (by rfl) e9.o ⟨rfl,i4.o⟩ c0.o c0.o.size (by omega) ?_;intro v1 w3' ho1 hb1 hg1 hv1;clear hg1 hv1;rw [b8.o] at ho1;have e5:=Zz ho1;have c7:=Zz hb1;clear ho1 hb1;obtain ⟨A5,c5,rfl,_,_⟩:=Kd.own_slice e5.o;have j5:=b5.o _ c7.o)
   go_roundw
   case rel=>exact ⟨k+1,d3,X,ls++[X],by go_num,by omega,rfl,a6,rfl,e0.o,z_,Zz (by rw [Zl,h_.o];rfl),f8,h8,e5,c7⟩
   case measure=>simp [intOf];omega
  .
   have hd:=df ((k:Int)<(n:Int));have f5:decide (k<n)=false:=dF hlt;have b1:Hid (parseF b=some ls):=Zz (by
    have e:n - k=0:=by omega
    rw [d_.o,HI.o,e,readN];simp)
   have g9:ls.length<=50000:=by rw [h_.o];omega
   obtain ⟨A4,c4,rfl,_,_⟩:=Kd.own_slice HO.o;rw [strs_len];have b0:=Zz (by
    have h1:=Kd.own_sl (ok:=TT) (ok':=fun _=>True) HO.o (fun _ _=>trivial) (fun _ _=>trivial)
    rwa [strs_len] at h1:strK.sl.M wr (fun _=>True) (strs ls) [.slice A4 ls.length c4])
   have y_:=Zz HB.o;have e_:=Zz (fun W (hW:Below wr.heap.size wr W)=>may6_calls ls (by omega) (fun x hx=>by have:=c3.o x hx;omega) A4 c4 W (strK.sl.mono (fun _ _ _=>trivial) (Kd.M_below (Kd.M_bound b0.o) hW)));have c_:=bR wr.heap.size wr;have c8:=BytesEq.conv_bytes (byteK.sl.mono (ok':=fun _=>True) (fun _ _ _=>trivial) (Kd.M_below HM.o y_.o));have d8:=Zz (fun W (hW:Below wr.heap.size wr W)=>BytesEq.conv_bytes (byteK.sl.mono (ok':=fun _=>True) (fun _ _ _=>trivial) (Kd.M_below HM.o (bel_step y_.o hW))));clear HO HB HI hd h9;by_cases hmay:MayF ls
   .
    have f7:=Zz hmay;have h7:Hid (∀ W,Below wr.heap.size wr W->Calls Tryz.prog 38 #[.slice A4 ls.length c4] W fun e w'=>e=.returned (.bool true)/\Below W.heap.size W w'):=Zz (fun W hW=>(e_.o W hW).mono (by
     rintro e w' ⟨⟨r,rfl,hr⟩,hb⟩;have h:=hr.2 hmay;subst h;exact ⟨rfl,hb⟩))
    clear e_;have c1:=Zz (fun W (hW:Below wr.heap.size wr W)=>bytes_calls ls hmay.1 (fun x hx=>(hmay.2.1 x hx).2) A4 c4 W (Kd.M_bound (Kd.M_below (Kd.M_bound b0.o) hW)));obtain ⟨F,hF⟩:∃ F,F=frontB ls:=⟨_,rfl⟩;have b6:=Zz hF;rw [<- hF] at c1;have h4:=Cmp.beq_eq F b;have tF:=mkS_toList F;have tb:=mkS_toList b;have h5:(F==b)=decide (F=b):=by
     by_cases h:F=b
     .
      subst h;simp
     .
      simp [h]
    have h6:(F != b) = !decide (F=b):=by rw [bne,h5]
    have t_:Hid (∀ (W:World),Below w.heap.size w W->strK.sl.M W (fun _=>True) (strs ls) [.slice A4 ls.length c4]->decide (F=b)=true->RdPost6 b w (.returned (.tuple #[.slice A4 ls.length c4,.int .i64 0])) W):=Zz (fun W hW hm hfb=>⟨⟨some ls,readsF_parse b1.o f7.o (by rw [<- b6.o];exact of_decide_eq_true hfb),A4,c4,rfl,hm⟩,hW⟩);have n_:Hid (∀ (W:World),Below w.heap.size w W->decide (F=b)=false->RdPost6 b w (.returned (.tuple #[.slice none 0 0,.int .i64 2])) W):=Zz (fun W hW hfb=>⟨⟨none,readsF_not b1.o (fun h=>of_decide_eq_false hfb (by rw [b6.o];exact h.2)),rfl⟩,hW⟩);have b4:=Zz (fun W (hW:Below wr.heap.size wr W)=>strK.sl.mono (ok':=fun _=>True) (fun _ _ _=>trivial) (Kd.M_below (Kd.M_bound b0.o) hW));clear hmay hF;generalize hz:decide (F=b)=z at *;clear hz;go_upto_region 15 with fail
    go_region_with (first
     | (go_at_call 38;refine (h7.o _ ?_).mono ?_;(repeat (first | assumption | exact bR _ _ | refine bel_drew ?_ | refine bel_alloc ?_ _));rintro e w8 ⟨rfl,a3⟩;have c_:Below wr.heap.size wr w8:=bel_step (by repeat (first | assumption | exact bR _ _ | refine bel_drew ?_ | refine bel_alloc ?_ _)) a3;have c8:=d8.o w8 c_)
     | (go_at_call 41;refine (c1.o _ ?_).mono ?_;(repeat (first | assumption | exact bR _ _ | refine bel_drew ?_ | refine bel_alloc ?_ _));rintro e w9 ⟨⟨v9,rfl,a1⟩,a3⟩;have g4:=Kd.own_sl (ok:=TT) (ok':=fun _=>True) a1 (fun _ _=>trivial) (fun _ _=>trivial);obtain ⟨A9,c9,rfl,_,_⟩:=Kd.own_slice a1;have i6:=BytesEq.conv_bytes g4;have c_:Below wr.heap.size wr w9:=bel_step (by repeat (first | assumption | exact bR _ _ | refine bel_drew ?_ | refine bel_alloc ?_ _)) a3;have c8:=d8.o w9 c_;clear a1))
    all_goals (
     have m_:=Zz (bel_step y_.o c_);have x_:=Zz (b4.o _ c_);cases z
     .
      go_wp2;go_ret2
      first | exact n_.o _ m_.o rfl | exact n_.o _ m_.o trivial
     .
      go_wp2;go_ret2
      first | exact t_.o _ m_.o x_.o rfl | exact t_.o _ m_.o x_.o trivial)
   .
    have HF:=Zz (readsF_not b1.o (fun h=>hmay h.1));have x_:Hid (∀ W,Below wr.heap.size wr W->Calls Tryz.prog 38 #[.slice A4 ls.length c4] W fun e w'=>e=.returned (.bool false)/\Below W.heap.size W w'):=Zz (fun W hW=>(e_.o W hW).mono (by
     rintro e w' ⟨⟨r,rfl,hr⟩,hb⟩;have h:r=false:=by
      cases r
      .
       rfl
      .
       exact absurd (hr.1 rfl) hmay
     subst h;exact ⟨rfl,hb⟩))
    have d6:=Zz (fun p:QT.Bel wr=>x_.o p.w p.bel);clear hmay e_;go_upto_region 15 with fail
    refine QT.region_all (by kernel_rfl) (by kernel_rfl) ?_
    iterate 1 (go_big_quiet_step (fail))
    go_big_quiet_step (exact QT.Bel.call _ (d6.o _))
    iterate 9 (go_big_quiet_step (fail))
    refine wpQuiet_nil ?_;intro w5 hw';obtain ⟨⟨_,e6⟩,rfl⟩:=hw';have m_:=Zz (bel_step y_.o e6);clear e6 d6;go_wp2;go_ret2;exact ⟨⟨none,HF.o,rfl⟩,m_.o⟩
end Ref6
namespace Ref2
open Go.RowKit Go.Lib B Rd StoreW Clones PackP PackW
theorem numB_low (b:List UInt8) (f:Nat):∀ c,numB b f (c+1)=(bitB b f).toNat+2*numB b (f+1) c
 | 0=>by simp [numB]
 | c+1=>by
  rw [numB,numB_low b f c,numB,show f+1+c=f+(c+1) by omega,Nat.pow_succ];have:(bitB b (f+(c+1))).toNat*(2^c*2)=2*((bitB b (f+(c+1))).toNat*2^c):=by
   rw [Nat.mul_comm (2^c) 2,Nat.mul_left_comm]
  rw [this,Nat.mul_add];omega
theorem or_low (x z:Nat) (hx:x<2^40) (hz:z<=1):Go.bits .or .i64 ((2*x:Nat):Int) (z:Int)=((z+2*x:Nat):Int):=by
 have a_:∀ n:Int,0<=n->n<2^63->IntKind.i64.wrap n=n:=fun n h0 h1=>by rw [Zw];omega
 rw [bits_join .i64 63 (by decide) a_ 1 ((2*x:Nat):Int) (z:Int) (by omega) (by omega) (by omega) (by omega) (by omega) (by omega)];omega
theorem rowB_snoc (b:List UInt8) (i wd:Nat):rowB b i wd++[numB b (i*wd) wd]=rowB b (i+1) wd:=by
 unfold rowB;rw [List.range_succ,List.map_append]
 try rfl
theorem unpack_calls (b:List UInt8) (n wd:Nat) (hn:n<=1000) (hw:wd<=19) (A:Option Addr) (c:Nat) (w:World) (HL:byteK.sl.M w (fun _=>True) b [.slice A b.length c]) :
  Calls Tryz.prog 76 #[.slice A b.length c,.int .i64 n,.int .i64 wd] w (UnpPost b n wd w):=by
 have HM:=Zz (Kd.M_bound HL);obtain ⟨A',c',hv,h1,h2,h3,r_⟩:=HL;obtain ⟨rfl,rfl⟩:A=A'/\c=c':=by simpa using hv
 have HR:=Zz (Kd.row_mono (ok':=fun k=>k<w.heap.size) (fun k _ hk=>hk) r_);clear r_;obtain ⟨m,hm⟩:∃ m,m=n*wd:=⟨_,rfl⟩;have b0:(n:Int)*(wd:Int)=(m:Int):=by rw [hm];rfl
 have d1:m<=20000:=by rw [hm];exact Zh (Nat.mul_le_mul hn hw) (by decide)
 have c9:IntKind.i64.wrap (m:Int)=(m:Int):=Zq
 have a1:=Zz hm;obtain ⟨sz,u_⟩:∃ sz,sz=(m+7)/8:=⟨_,rfl⟩;have a3:((m:Int)+7)/8=(sz:Int):=by omega
 have a4:sz<=2501:=by omega
 have s_:=Zz u_;clear hm u_;have y1:=df ((wd:Int)<0);have y2:=df ((20:Int)<(wd:Int));have y3:=df ((n:Int)<0);have y4:=df ((1000:Int)<(n:Int));by_cases hlen:b.length=sz
 case neg =>
  have a6:((b.length:Int) != (sz:Int))=true:=by simp;omega
  have HN:=Zz (readsN_size (b:=b) (n:=n) (wd:=wd) (by rw [<- a1.o,<- s_.o];exact hlen));clear hlen;go_enter func76,ntmps76;go_wp2;go_ret2;exact ⟨⟨none,HN.o,rfl⟩,bR _ _⟩
 have a6:((b.length:Int) != (sz:Int))=false:=by simp;omega
 have p_:Hid (intK.own 3 w w.heap.size Clones.TT (.slice none 0 0) (natZ (rowB b 0 wd))):=Zz (Kd.own_nil _ _ _ _ _);have g_:=Zz hlen;have d5:b.length<=2501:=by omega
 clear hlen;go_enter func76,ntmps76;go_wp2;go_loopw [8,9] (fun v8 vi wr=>∃ i:Nat,vi=.int .i64 i/\i<=n/\Hid (intK.own 3 wr w.heap.size Clones.TT v8 (natZ (rowB b i wd))/\Below w.heap.size w wr)) (fun _ vi _=>n - (intOf vi).toNat)
 case atStart=>exact ⟨0,rfl,by omega,Zz ⟨p_.o,bR _ _⟩⟩
 case round =>
  obtain ⟨i,rfl,d2,HI⟩:=hrel;clear p_;obtain ⟨Y,hY⟩:∃ Y,Y=natZ (rowB b i wd):=⟨_,rfl⟩;rw [<- hY] at HI;have h_:=Zz hY;have b5:Y.length<=1000:=by rw [hY,natZ_len,rowB_len];omega
  clear hY;obtain ⟨A8,c8,rfl,_,_⟩:=Kd.own_slice HI.o.1;by_cases hlt:i<n
  .
   have hd:decide (i<n)=true:=dT hlt;have ik:(i:Int)<(n:Int):=by omega
   obtain ⟨fr,c_⟩:∃ fr,fr=i*wd:=⟨_,rfl⟩;have b3:(i:Int)*(wd:Int)=(fr:Int):=by rw [c_];rfl
   have a5:fr+wd<=m:=by
    rw [c_,a1.o];have:=Nat.mul_le_mul_right wd (show i+1<=n from hlt);rw [Nat.succ_mul] at this;exact this
   have b6:=Zz c_;have b9:=Zz HI.o.1;have j_:=Zz HI.o.2;clear c_ HI;have t_:Hid (0=numB b (fr+wd) (wd - wd)):=Zz (by rw [Nat.sub_self,numB]);have d3:IntKind.i64.wrap ((wd:Int) - 1)=(wd:Int) - 1:=Zq
   go_wp2;go_loopw [10,11] (fun vx vk wx=>∃ (k x:Nat) (a:Int),vk=.int .i64 a/\a=(k:Int) - 1/\k<=wd/\vx=.int .i64 x/\Hid (x=numB b (fr+k) (wd - k))/\wr=wx) (fun _ vk _=>(intOf vk+1).toNat)
   case atStart=>exact ⟨wd,0,_,rfl,rfl,by omega,rfl,t_,rfl⟩
   case round =>
    obtain ⟨k,x,a,rfl,z_,c6,rfl,HX,rfl⟩:=hrel;clear t_;cases k with
    | zero =>
     obtain rfl:a = -1:=by omega
     have d0:decide ((0:Int) <= -1)=false:=by decide
     have w_:Hid (x=numB b (i*wd) wd):=Zz (by rw [HX.o,b6.o];simp);have a0:x<=1000000:=by
      have h:=numB_lt b (i*wd) wd;have a2:(2:Nat)^wd<=2^19:=Nat.pow_le_pow_right (by decide) (by omega);have:=w_.o;omega
     have c0:Hid (Y++[(x:Int)]=natZ (rowB b (i+1) wd)):=Zz (by rw [h_.o,<- rowB_snoc,w_.o];simp [natZ]);clear HX z_;go_wp2_with (at_builtin;refine Kd.own_app1 intK (w0:=w) w.heap.size rfl (.tmp 67) (.tmp 69) 74 3 zero_int 8 rfl underlying74 info_int rfl (by decide) _ Y (x:Int) [.int .i64 (x:Int)] Clones.TT (by rfl) (by rfl) b9.o ⟨rfl,by omega⟩ j_.o j_.o.size (by omega) ?_;intro v1 w7 ho1 hb1 hg1 hv1;clear hg1 hv1;rw [c0.o] at ho1;have v_:=Zz ho1;have c1:=Zz hb1;clear ho1 hb1;obtain ⟨A7,c7,rfl,_,_⟩:=Kd.own_slice v_.o)
     go_wp2;go_roundw
     case rel=>exact ⟨i+1,by go_num,by omega,Zz ⟨v_.o,c1.o⟩⟩
     case measure=>simp [intOf];omega
    | succ j =>
     obtain rfl:a=(j:Int):=by omega
     have k_:(fr+j)/8<b.length:=by have:=s_.o;have:=g_.o;omega
     have jz:(((fr+j)/8:Nat):Int)<(b.length:Int):=by omega
     obtain ⟨ba,b4,rfl,a_⟩:=BoxWalk.u8_plain HR.o (by omega);have x_:=(j_.o.cell (p:=⟨ba,b4+(fr+j)/8,none⟩) (cell_lt (a_ _ k_))).trans (a_ _ k_);obtain ⟨v,hv⟩:∃ v:UInt8,v=b[(fr+j)/8]:=⟨_,rfl⟩;rw [<- hv] at x_;obtain ⟨z,hz⟩:∃ z,z=(v.toNat.testBit ((fr+j) % 8)).toNat:=⟨_,rfl⟩;have i_:=bit_and v ((fr+j) % 8);rw [<- hz] at i_;have a9:z<=1:=by rw [hz];cases v.toNat.testBit ((fr+j) % 8) <;> simp
     have a0:x<2^40:=by
      rw [HX.o];exact Nat.lt_of_lt_of_le (numB_lt _ _ _) (Nat.pow_le_pow_right (by decide) (by omega))
     have b1:=or_low x z a0 a9;obtain ⟨y,hy⟩:∃ y,y=z+2*x:=⟨_,rfl⟩;obtain ⟨t,ht⟩:∃ t,t=2*x:=⟨_,rfl⟩;rw [<- hy,<- ht] at b1;have d4:IntKind.i64.wrap ((x:Int)*2)=(t:Int):=Zq
     have HY:Hid (y=numB b (fr+j) (wd - j)):=Zz (by
      rw [hy,show wd - j=wd - (j+1)+1 by omega,numB_low,HX.o,hz];unfold bitB;rw [Zg k_,<- hv];rfl)
     have d0:=dt ((0:Int)<=(j:Int));have c3:IntKind.i64.wrap ((j:Int) - 1)=(j:Int) - 1:=Zq
     clear hy ht hz hv a_ HX z_;have d6:IntKind.u64.wrap (((fr+j) % 8:Nat):Int)=(((fr+j) % 8:Nat):Int):=by rw [IntKind.wrap_u64];omega
     go_wp2;go_roundw
     case rel=>exact ⟨j,y,_,rfl,rfl,by omega,rfl,HY,trivial⟩
     case measure=>first | (simp [intOf];done) | (simp [intOf];omega)
  .
   have hd:decide (i<n)=false:=dF hlt;obtain rfl:i=n:=by omega
   have c2:=Zz HI.o.2;have b_:Hid ((rowB b i wd).length=i):=Zz (rowB_len _ _ _);have q_:Y.length=i:=by rw [h_.o,natZ_len,b_.o]
   have y_:Hid (∀ x∈rowB b i wd,x<=1000000/\Lib.bitLen x<=wd):=Zz (fun x hx=>by
    have h:=rowB_lt _ _ _ x hx;have a2:(2:Nat)^wd<=2^19:=Nat.pow_le_pow_right (by decide) (by omega);exact ⟨by omega,Lib.bitLen_le _ _ (by omega) h⟩)
   have f_:=Kd.own_sl (ok:=Clones.TT) (ok':=fun _=>True) HI.o.1 (fun _ _=>trivial) (fun _ _=>trivial);rw [h_.o,natZ_len,b_.o] at f_;rw [q_];have b8:=Zz f_;have e_:=Zz (pack_calls (rowB b i wd) wd (by omega) (by rw [b_.o];omega) (fun n hn=>⟨Zh (y_.o n hn).1 (by decide),(y_.o n hn).2⟩) A8 c8 wr (Kd.M_bound (by rw [b_.o];exact f_)));rw [b_.o] at e_;obtain ⟨F,hF⟩:∃ F,F=packB (rowB b i wd) wd:=⟨_,rfl⟩;have o_:=Zz hF;rw [<- hF] at e_;clear HI hF f_ q_ b5;go_wp2_with fail;refine e_.o.mono ?_;rintro e w4 ⟨⟨v4,rfl,n_⟩,m_⟩;have d_:=Zz (bel_step c2.o m_);have l_:=Kd.own_sl (ok:=PackW.TT) (ok':=fun _=>True) n_ (fun _ _=>trivial) (fun _ _=>trivial);obtain ⟨A4,c4,rfl,_,_⟩:=Kd.own_slice n_;have c5:=BytesEq.conv_bytes l_;have x_:=BytesEq.conv_bytes (byteK.sl.mono (ok':=fun _=>True) (fun _ _ _=>trivial) (Kd.M_below HM.o d_.o));have a7:=Zz (fun nq=>BytesEq.conv_bytes (Kd.M_below (Kd.M_bound l_) (bel_drewN (bR _ _) nq)));have b7:=Zz (fun nq=>BytesEq.conv_bytes (byteK.sl.mono (ok':=fun _=>True) (fun _ _ _=>trivial) (Kd.M_below HM.o (bel_drewN d_.o nq))));have b2:Hid (intK.sl.M w4 (fun _=>True) (natZ (rowB b i wd)) [.slice A8 i c8]):=Zz (intK.sl.mono (fun _ _ _=>trivial) (Kd.M_below (Kd.M_bound b8.o) m_));have h4:=Cmp.beq_eq F b;have tF:=mkS_toList F;have tb:=mkS_toList b;have ga:=a7.o;have gb:=b7.o;clear n_ m_ l_ e_;by_cases hfb:F=b
   .
    have HF:=Zz (readsN_row (b:=b) (n:=i) (wd:=wd) (by rw [<- o_.o];exact hfb));have a8:(F==b)=true:=by rw [hfb];simp
    rw [dT hfb] at h4;clear hfb;dsimp only;go_wp2;go_ret2;exact ⟨⟨some (rowB b i wd),HF.o,A8,c8,(by rw [b_.o];try rfl),(by rw [b_.o];exact b2.o)⟩,d_.o⟩
   .
    have HF:=Zz (readsN_not (b:=b) (n:=i) (wd:=wd) (by rw [<- o_.o];exact hfb));have a8:(F==b)=false:=by simp [hfb]
    rw [dF hfb] at h4;clear hfb;dsimp only;go_wp2;go_ret2;exact ⟨⟨none,HF.o,rfl⟩,d_.o⟩
end Ref2
namespace RefDec
open Go.RowKit Go.Lib B Rd TermPure LinesPure Tri SortP OrdG Env StoreP StoreW FrontP PackP BoxPure BoxWalk BoxPack RefOf
def DPost (b:List UInt8) (w:World) (e:Ending) (w':World):Prop:=
 (∃ r,DecR b r/\match r with
  | none=>e=.returned (.tuple #[.pointer none,.int .i64 2])
  | some T=>∃ g,e=.returned (.tuple #[.pointer (some ⟨g,0,none⟩),.int .i64 0])/\RefAt w' (fun _=>True) g T)/\Below w.heap.size w w'
theorem refdec_calls (b:List UInt8) (hb:b.length<=80000) (A:Option Addr) (c:Nat) (w:World) (he:Env w) (HL:byteK.sl.M w (fun _=>True) b [.slice A b.length c]) :
  Calls Tryz.prog 36 #[.slice A b.length c] w (DPost b w):=by
 have HM:=Zz (Kd.M_bound HL);have HU:=Zz (BoxRefUn.refunpack_calls b hb _ w HL);have HE:=Zz he;clear HL he;go_enter func36,ntmps36;go_wp2_with fail;refine HU.o.mono ?_;rintro e w1 ⟨e5,r,hr,hm⟩;have m_:=Zz e5;clear HU e5;cases r with
 | none =>
  dsimp only at hm;subst hm;have HF:=Zz (dec_none_box hr);clear hr;dsimp only;go_wp2;go_ret2;exact ⟨⟨none,HF.o,rfl⟩,m_.o⟩
 | some l =>
  obtain ⟨v,rfl,ho⟩:=hm;have e_:=Zz hr;have f0:=ms ho;obtain ⟨A4,c4,rfl,_,_⟩:=Kd.own_slice ho;have h9:=Zz f0;clear hr ho f0;dsimp only;by_cases h2:l.length=2
  case neg =>
   have i7:((l.length:Int) != 2)=true:=by simp;omega
   have HF:=Zz (dec_none_len e_.o h2);clear h2;go_wp2;go_ret2;exact ⟨⟨none,HF.o,rfl⟩,m_.o⟩
  obtain ⟨s1,s2,rfl⟩:∃ s1 s2,l=[s1,s2]:=by
   match l,h2 with
   | [a,b'],_=>exact ⟨a,b',rfl⟩
  obtain ⟨b4,o4,rfl,f2,h_⟩:=SecTwo.sec_at h9.o (by simp);obtain ⟨A1,c1,k1,a7⟩:=h_ 0 (by simp);obtain ⟨A2,c2,k2,b5⟩:=h_ 1 (by simp);simp only [List.getElem_cons_zero,List.getElem_cons_succ,Nat.zero_mul,Nat.add_zero,Nat.one_mul] at k1 k2 a7 b5;simp only [Zc,List.length_nil,Nat.zero_add,Nat.reduceAdd] at *;have j_:=(e_.o [s1,s2]).1 rfl;have HK:=Zz (fun W (hW:Below w1.heap.size w1 W)=>(⟨(hW.cell (p:=⟨b4,o4+1,none⟩) f2).trans k1,(hW.cell (p:=⟨b4,o4+2+1,none⟩) f2).trans k2⟩:W.cell? ⟨b4,o4+1,none⟩=some (.slice A1 s1.2.length c1)/\W.cell? ⟨b4,o4+2+1,none⟩=some (.slice A2 s2.2.length c2)));have b7:=Zz a7;have p_:=Zz b5;clear a7 b5 h_ h2;by_cases hsh:s2.2.length<2
  .
   have d2:=dt ((s2.2.length:Int)<2);have HF:=Zz (dec_none_short e_.o hsh);go_wp2;go_ret2;exact ⟨⟨none,HF.o,rfl⟩,m_.o⟩
  have d2:=df ((s2.2.length:Int)<2);have b2:s1.2.length<=100000:=by
   have h:=j_.1.2.2;simp only [total,Zc,List.length_nil] at h;omega
  have g7:s2.2.length<=100000:=by
   have h:=j_.1.2.2;simp only [total,Zc,List.length_nil] at h;omega
  have f1:=Zz (Ref6.read6_calls s1.2 b2 A1 c1 w1 b7.o);obtain ⟨g9,g4,c7,g1,g2,g3,gr⟩:=id p_.o;obtain ⟨rfl,rfl⟩:A2=g9/\c2=g4:=by simpa using c7
  obtain ⟨bx,ox,rfl,d_⟩:=u8_plain gr (by omega);have f4:bx<w1.heap.size:=cell_lt (d_ 0 (by omega));obtain ⟨p0,a0⟩:∃ p0,p0=s2.2[0].toNat:=⟨_,rfl⟩;obtain ⟨p1,u_⟩:∃ p1,p1=s2.2[1].toNat:=⟨_,rfl⟩;have l0:p0<256:=by rw [a0];exact s2.2[0].toNat_lt
  have l1:p1<256:=by rw [u_];exact s2.2[1].toNat_lt
  obtain ⟨c_,k_⟩:∃ c_,c_=cntB s2.2:=⟨_,rfl⟩;have g0:p0*256+p1=c_:=by
   rw [k_,a0,u_];unfold cntB;rw [List.getD_eq_getElem?_getD,List.getD_eq_getElem?_getD,Zg (by omega),Zg (by omega)]
   try rfl
  have e6:∀ n:Int,0<=n->n<2^63->IntKind.i64.wrap n=n:=fun n h0 h1=>by rw [Zw];omega
  have j0:Go.bits .or .i64 ((p0:Int)*256) (p1:Int)=(c_:Int):=by
   rw [bits_join .i64 63 (by decide) e6 8 ((p0:Int)*256) (p1:Int) (by omega) (by omega) (by omega) (by omega) (by omega) (by omega)];omega
  have j4:IntKind.i64.wrap ((p0:Int)*256)=(p0:Int)*256:=Zq
  have HY:=Zz (fun W (hW:Below w1.heap.size w1 W)=>(⟨(hW.cell (p:=⟨bx,ox+0,none⟩) f4).trans (d_ 0 (by omega)),(hW.cell (p:=⟨bx,ox+1,none⟩) f4).trans (d_ 1 (by omega))⟩:W.cell? ⟨bx,ox+0,none⟩=some (.int .u8 (s2.2[0].toNat:Int))/\W.cell? ⟨bx,ox+1,none⟩=some (.int .u8 (s2.2[1].toNat:Int))));rw [<- a0,<- u_] at HY;have a3:=Zz k_;have y0:(0:Int)<(s2.2.length:Int):=by omega
  have y1:(1:Int)<(s2.2.length:Int):=by omega
  have j2:c_<=65535:=by omega
  clear g0 a0 u_ k_ d_ gr j_ e6 hsh c7;go_wp2_with fail;refine f1.o.mono ?_;rintro e w2 ⟨⟨r6,hf,a1⟩,n_⟩;have b6:=Zz (bel_step m_.o n_);have o_:=Zz n_;obtain ⟨z1,z2⟩:=HY.o w2 n_;obtain ⟨q1,q2⟩:=HK.o w2 n_;rw [Nat.add_zero] at z1;clear f1 n_ k1 k2;cases r6 with
  | none =>
   dsimp only at a1;subst a1;have HF:=Zz (dec_none_front e_.o hf);have g6:=Zz (fun q=>bel_drewN b6.o q);clear hf;dsimp only;go_upto_region 5 with fail
   go_quiet (fail);go_wp2;go_ret2;exact ⟨⟨none,HF.o,rfl⟩,g6.o _⟩
  | some L =>
   obtain ⟨A6,c6,rfl,e7⟩:=a1;have s_:=Zz hf;have e9:=Zz e7;clear hf e7;dsimp only;go_upto_region 5 with fail
   go_quiet (fail);have a6:=Zz (bel_drewN b6.o nq);have a2:=Zz (bel_drewN o_.o nq);have h5:=Zz (strK.sl.mono (ok':=fun _=>True) (fun _ _ _=>trivial) (Kd.M_below (Kd.M_bound e9.o) (bel_drewN (bR _ _) nq)));clear q1 q2 z1 z2 b6 o_ e9;generalize w2.drewN nq=w3 at *;by_cases h100:100<c_
   .
    have d1:=dt ((100:Int)<(c_:Int));have HF:=Zz (dec_none_cnt e_.o (by rw [<- a3.o];exact h100));go_wp2;go_ret2;exact ⟨⟨none,HF.o,rfl⟩,a6.o⟩
   have d1:=df ((100:Int)<(c_:Int));have j3:c_<=100:=by omega
   have b1:=((s_.o L).1 rfl).1;have i1:L.length<=300:=b1.1;have c0:=Zz (RefTerm.refterms_calls L i1 (fun x hx=>by have:=b1.2.1 x hx;omega) A6 c6 w3 (HE.o.below a6.o) h5.o);obtain ⟨wd,v_⟩:∃ wd,wd=Lib.bitLen L.length:=⟨_,rfl⟩;have i2:wd<=9:=by rw [v_];exact Lib.bitLen_le _ 9 (by decide) (by omega)
   have e1:=Zz (fun W=>Ref2.width_calls L.length (by omega) W);rw [<- v_] at e1;obtain ⟨n3,d6⟩:∃ n3,n3=3*c_:=⟨_,rfl⟩;have d3:(3:Int)*(c_:Int)=(n3:Int):=by omega
   have f9:n3<=300:=by omega
   have h3:IntKind.i64.wrap (n3:Int)=(n3:Int):=Zq
   have a8:(s2.2.drop 2).length=s2.2.length - 2:=by simp
   obtain ⟨w_,-,q_,-,f_⟩:=Kd.cut_run (P:=Tryz.prog) byteK 55 5 underlying55 BoxUnpack.cellsB (.int .u8 0) 1 PackW.info_u8 (some ⟨bx,ox,none⟩) s2.2.length c2 2 s2.2.length (by omega) (lR _) g1 g2 (fun h=>by cases h);have g8:∀ (kl:IntKind) (w:World),(Instr.slice 55 (.slice (some ⟨bx,ox,none⟩) s2.2.length c2) (some (.int kl 2)) none none).run Tryz.prog w=.ok (.slice w_ (s2.2.length - 2) (c2 - 2)) w:=fun kl w=>q_ kl w rfl
   have l_:byteK.sl.M w1 (fun _=>True) (s2.2.drop 2) [.slice w_ (s2.2.drop 2).length (c2 - 2)]:=by
    obtain ⟨_,_,hv,_,_,_,hr⟩:=id p_.o;simp at hv;obtain ⟨rfl,rfl⟩:=hv;have h:=f_ w1 _ s2.2 rfl hr;rw [List.take_length] at h;rw [a8];exact h
   clear q_ f_;have b3:=Zz (fun W (hW:Below w1.heap.size w1 W)=>Ref2.unpack_calls (s2.2.drop 2) n3 wd (by omega) (by omega) w_ (c2 - 2) W (mb l_ hW));rw [a8] at b3;have h7:Hid (∀ W,Below w1.heap.size w1 W->Calls Tryz.prog 76 #[.slice w_ (s2.2.length - 2) (c2 - 2),.int .i64 n3,.int .i64 wd] W fun e w'=>(∃ A' n' c' g,e=.returned (.tuple #[.slice A' n' c',.int .i64 g])/\((g=2/\ReadsN (s2.2.drop 2) n3 wd none)\/(g=0/\∃ l,ReadsN (s2.2.drop 2) n3 wd (some l)/\n'=l.length/\intK.sl.M w' (fun _=>True) (natZ l) [.slice A' l.length c'])))/\Below W.heap.size W w'):=Zz (fun W hW=>(b3.o W hW).mono (by
    rintro e w' ⟨⟨r,hr,hm⟩,hb⟩;cases r with
    | none=>exact ⟨⟨none,0,0,2,hm,.inl ⟨rfl,hr⟩⟩,hb⟩
    | some l =>
     obtain ⟨A',c',he,hM⟩:=hm;exact ⟨⟨A',l.length,c',0,he,.inr ⟨rfl,l,hr,rfl,hM⟩⟩,hb⟩))
   clear b3;have c5:=Zz v_;have x_:=Zz d6;clear v_ d6 a8 b1 l_;go_wp2_with fail;refine c0.o.mono ?_;rintro e w4 ⟨b_,i_⟩;have i8:=Zz (bel_step a6.o i_);have b8:=Zz (bel_step a2.o i_);clear c0 i_;obtain ⟨A9,n9,c9,y_,rfl,hT⟩:∃ A9 n9 c9 y_,e=.returned (.tuple #[.slice A9 n9 c9,.bool y_])/\((y_=false/\DecR b none)\/(y_=true/\∃ E,L=E.map shown/\n9=E.length/\(∀ t∈E,is t=true)/\termK.sl.M w4 (fun _=>True) E [.slice A9 E.length c9])):=by
    rcases b_ with ⟨⟨x,hxL,hxn⟩,rfl⟩ | ⟨E,A9,c9,hLE,hEi,rfl,hME⟩
    .
     exact ⟨_,_,_,_,rfl,.inl ⟨rfl,dec_none_terms e_.o s_.o hxL hxn⟩⟩
    .
     exact ⟨_,_,_,_,rfl,.inr ⟨rfl,E,hLE,rfl,hEi,hME⟩⟩
   have HT:=Zz hT;clear b_ hT;dsimp only;have a_:Below w1.heap.size w1 w4.drew:=bel_drew b8.o;have hS:=(HK.o w4.drew a_).2;go_upto_region 9 with fail
   refine HeldZ.region (fun W=>W.cell? ⟨b4,o4+2+1,none⟩=some (Value.slice (some ⟨bx,ox,none⟩) s2.2.length c2)) 15 16 #[false,false,false,false,false,false,false,false,false,false,false,false,false,false,false,false] (by kernel_rfl) rfl rfl ?_;intro hinv;refine HeldZ.tk 0 hinv hS ?_;clear hinv;intro hinv
   try simp only [Act.put,Zs,HeldZ.sm] at hinv |-
   refine HeldZ.tk 1 hinv hS ?_;clear hinv;intro hinv
   try simp only [Act.put,Zs,HeldZ.sm] at hinv |-
   refine HeldZ.tk 2 hinv hS ?_;clear hinv;intro hinv
   try simp only [Act.put,Zs,HeldZ.sm] at hinv |-
   refine HeldZ.tk 3 hinv hS ?_;clear hinv;intro hinv
   try simp only [Act.put,Zs,HeldZ.sm] at hinv |-
   refine HeldZ.tk 4 hinv hS ?_;clear hinv;intro hinv
   try simp only [Act.put,Zs,HeldZ.sm] at hinv |-
   refine HeldZ.tk 5 hinv hS ?_;clear hinv;intro hinv
   try simp only [Act.put,Zs,HeldZ.sm] at hinv |-
   refine HeldZ.tk 6 hinv hS ?_;clear hinv;intro hinv
   try simp only [Act.put,Zs,HeldZ.sm] at hinv |-
   refine HeldZ.tk 7 hinv hS ?_;clear hinv;intro hinv
   try simp only [Act.put,Zs,HeldZ.sm] at hinv |-
   refine HeldZ.tk 8 hinv hS ?_;clear hinv;intro hinv
   try simp only [Act.put,Zs,HeldZ.sm] at hinv |-
   refine HeldZ.ow 9 hinv ?_;clear hinv;intro hinv K hK;go_simp;refine (e1.o _).mono ?_;rintro e w5 ⟨rfl,rfl⟩;refine hK _ _ (fun _=>hS) ?_;clear hK K
   try simp only [Act.put,Zs,HeldZ.sm] at hinv |-
   refine HeldZ.ow 10 hinv ?_;clear hinv;intro hinv K hK;go_simp;refine (h7.o _ a_).mono ?_;rintro e w6 ⟨⟨i0,j5,g5,j1,rfl,b_⟩,hb6⟩;have a9:=Zz hb6;have a_:Below w1.heap.size w1 w6:=bel_step (by assumption) hb6;have d4:=Zz b_;clear b_ hb6 hS;have hS:=(HK.o w6 a_).2;refine hK _ _ (fun _=>hS) ?_;clear hK K
   try simp only [Act.put,Zs,HeldZ.sm] at hinv |-
   refine HeldZ.tk 11 hinv hS ?_;clear hinv;intro hinv
   try simp only [Act.put,Zs,HeldZ.sm] at hinv |-
   refine HeldZ.tk 12 hinv hS ?_;clear hinv;intro hinv
   try simp only [Act.put,Zs,HeldZ.sm] at hinv |-
   refine HeldZ.tk 13 hinv hS ?_;clear hinv;intro hinv
   try simp only [Act.put,Zs,HeldZ.sm] at hinv |-
   refine HeldZ.tk 14 hinv hS ?_;clear hinv;intro hinv
   try simp only [Act.put,Zs,HeldZ.sm] at hinv |-
   refine HeldZ.oneW 15 hinv (by kernel_rfl) rfl (by rfl) ?_;clear hinv;intro _ K hK;go_simp;refine hK _ _ (fun h=>absurd rfl h) ?_;refine HeldZ.done (by kernel_rfl) ?_ _;clear hK K hS;have z_:=Zz (bel_step m_.o a_);have i5:=Zz (bel_step (bel_drew (bR w4.heap.size w4)) a9.o);clear a_;rcases HT.o with ⟨rfl,hn⟩ | ⟨rfl,E,hLE,rfl,hEi,hME⟩
   .
    have HF:=Zz hn;clear hn;go_wp2;go_ret2;exact ⟨⟨none,HF.o,rfl⟩,z_.o⟩
   rcases d4.o with ⟨rfl,hn⟩ | ⟨rfl,l,hn,rfl,hMl⟩
   .
    have HF:=Zz (dec_none_nums e_.o s_.o (by rw [<- a3.o,<- x_.o,<- c5.o];exact hn));clear hn;go_wp2;go_ret2;exact ⟨⟨none,HF.o,rfl⟩,z_.o⟩
   obtain ⟨I,rfl,e8⟩:∃ I,l=nums I/\I.length=c_:=⟨threes l,(nums_threes c_ l (by rw [((hn l).1 rfl).1,x_.o])).1.symm,(nums_threes c_ l (by rw [((hn l).1 rfl).1,x_.o])).2⟩;have r_:I.length<=100:=by omega
   have e2:Hid (ReadsN (s2.2.drop 2) (3*cntB s2.2) (Lib.bitLen L.length) (some (nums I))):=Zz (by rw [<- a3.o,<- x_.o,<- c5.o];exact hn);have d8:=Zz hLE;have h6:E.length<=300:=by have h:=congrArg List.length hLE;rw [List.length_map] at h;omega
   have f3:=Zz (RefTrip.reftrip_calls I E r_ hEi h6 i0 A9 g5 c9 w6 (HE.o.below z_.o) hMl (Kd.M_below (Kd.M_bound hME) i5.o |> termK.sl.mono (ok':=fun _=>True) (fun _ _ _=>trivial)));have i9:=Zz e8;clear hn hLE hEi hME hMl HT d4 e8;go_wp2_with fail;refine f3.o.mono ?_;rintro e w7 ⟨b_,f6⟩;have f7:=Zz (bel_step z_.o f6);clear f6 f3;rcases b_ with ⟨hno,rfl⟩ | ⟨T,A13,c13,hMk,hV,rfl,hMT⟩
   .
    have HF:=Zz (dec_none_makes e_.o s_.o e2.o (by rw [d8.o];exact hno));clear hno;dsimp only;go_wp2;go_ret2;exact ⟨⟨none,HF.o,rfl⟩,f7.o⟩
   have g_:T.length<=100:=by have h:=hMk.1;omega
   have HV:=Zz hV;have h8:Hid (Makes L I T):=Zz (by rw [d8.o];exact hMk);have e3:=Zz (SortW.refsort_calls T A13 c13 w7 (Kd.M_bound hMT) (fun x hx=>(Parse.valid_small (hV x hx)).1) (by omega));clear hMk hV hMT;dsimp only;go_wp2_with fail;refine e3.o.mono ?_;rintro e w8 ⟨h4,i3,rfl,d5,c3⟩;have i4:=Zz (bel_step f7.o c3);have f5:Hid (Valid (sortT T)):=Zz (ParseOk.sortT_valid HV.o);have b9:(sortT T).length<=100:=Zh (ParseOk.sortT_len T) g_;have d7:=Zz (RefOf.of_calls (sortT T) f5.o b9 h4 i3 w8 d5);clear d5 c3 e3;go_wp2_with fail;refine d7.o.mono ?_;rintro e w9 ⟨⟨gR,rfl,f8⟩,d9⟩;have b0:=Zz (bel_step i4.o d9);have e4:=Zz f8;have d0:=Zz (fun W (hW:Below w9.heap.size w9 W)=>RefEnc.refenc_calls (sortT T) f5.o b9 gR W _ (Alike.ref_below e4.o hW));obtain ⟨X,hX⟩:∃ X,X=encT (sortT T):=⟨_,rfl⟩;have HX:=Zz hX;rw [<- hX] at d0;have p_:=Zz (fun W (hW:Below w.heap.size w W)=>SCommon.conv_row (byteK.sl.mono (ok':=fun _=>True) (fun _ _ _=>trivial) HM.o) hW);have tX:=mkS_toList X;have tb:=mkS_toList b;clear f8 d9 d7 hX;have a_:Below w9.heap.size w9 w9.drew:=bel_drew (bR _ _);have hS:=p_.o w9.drew (bel_step b0.o a_);go_upto_region 16 with fail
   refine HeldZ.region (fun W=>(convert 55 9 (.slice A b.length c)).run Tryz.prog W=.ok (.string (mkS b)) W) 5 6 #[false,false,false,false,false,false] (by kernel_rfl) rfl rfl ?_;intro hinv;refine HeldZ.tk 0 hinv hS ?_;clear hinv;intro hinv
   try simp only [Act.put,Zs,HeldZ.sm] at hinv |-
   refine HeldZ.tk 3 hinv hS ?_;clear hinv;intro hinv
   try simp only [Act.put,Zs,HeldZ.sm] at hinv |-
   refine HeldZ.tk 4 hinv hS ?_;clear hinv;intro hinv
   try simp only [Act.put,Zs,HeldZ.sm] at hinv |-
   refine HeldZ.ow 1 hinv ?_;clear hinv;intro hinv K hK;go_simp;refine (d0.o _ a_).mono ?_;rintro e e0 ⟨⟨va,rfl,a4⟩,c8⟩;have b7:=Zz (Kd.own_sl (ok:=fun _=>True) (ok':=fun _=>True) a4 (fun _ _=>trivial) (fun _ _=>trivial));obtain ⟨Aa,ca,rfl,_,_⟩:=Kd.own_slice a4;have i6:=SCommon.conv_row b7.o (bR _ _);have a_:Below w9.heap.size w9 e0:=bel_step (by assumption) c8;clear hS;have hS:=p_.o e0 (bel_step b0.o a_);clear a4 c8;refine hK _ _ (fun _=>hS) ?_;clear hK K
   try simp only [Act.put,Zs,HeldZ.sm] at hinv |-
   refine HeldZ.ow 2 hinv ?_;clear hinv;intro hinv K hK;go_simp;refine hK _ _ (fun _=>hS) ?_;clear hK K
   try simp only [Act.put,Zs,HeldZ.sm] at hinv |-
   have t_:=Zz (bel_step b0.o a_);have a5:=Zz (Alike.ref_below e4.o a_);clear a_;by_cases hxb:X=b
   .
    subst hxb;have hq:(X==X)=true:=by simp
    have HF:=Zz (dec_some HV.o g_ HX.o.symm);refine HeldZ.oneW 5 hinv (by kernel_rfl) rfl (by rfl) ?_;clear hinv;intro _ K hK;go_simp;refine hK _ _ (fun h=>absurd rfl h) ?_;refine HeldZ.done (by kernel_rfl) ?_ _;clear hK K hS;go_wp2;go_ret2;exact ⟨⟨some (sortT T),HF.o,gR,rfl,a5.o⟩,t_.o⟩
   .
    have hq:(X==b)=false:=by simpa using hxb
    have HF:=Zz (dec_none_eq e_.o s_.o e2.o h8.o (by rw [<- HX.o];exact hxb));clear hxb;refine HeldZ.oneW 5 hinv (by kernel_rfl) rfl (by rfl) ?_;clear hinv;intro _ K hK;go_simp;refine hK _ _ (fun h=>absurd rfl h) ?_;refine HeldZ.done (by kernel_rfl) ?_ _;clear hK K hS;go_wp2;go_ret2;exact ⟨⟨none,HF.o,rfl⟩,t_.o⟩
end RefDec
namespace Ref2
open Go.RowKit Go.Lib B Rd PackW StoreW
theorem z_cells {w:World} {ok:Nat->Prop} {l:List Int} {A:Option Addr} {c:Nat} (h:intK.sl.M w ok l [.slice A l.length c]) (hp:0<l.length):∃ b off,A=some ⟨b,off,none⟩/\∀ i (hi:i<l.length),w.cell? ⟨b,off+i,none⟩=some (.int .i64 l[i]):=by
 obtain ⟨A',c',he,_,_,_,c_⟩:=h;obtain ⟨rfl,rfl⟩:A=A'/\c=c':=by simpa using he
 obtain ⟨b,off,d_,_,_,a_⟩:=Kd.row_addr c_ hp;refine ⟨b,off,d_,fun i hi=>?_⟩;obtain ⟨cs,hM,b_⟩:=a_ i hi;obtain rfl:cs=[.int .i64 l[i]]:=hM.1;have:=b_ 0 _ rfl;rw [show intK.sz=1 from rfl,Nat.mul_one,Nat.add_zero] at this;exact this
theorem bit_big (x:Nat) (h:2000000<x):21<=Lib.bitLen x\/18446744073709551616<=x:=by
 by_cases hx:x<2^64
 .
  refine .inl ?_;rw [Lib.bitLen_shift 20 x (by omega) hx];have:x/2^20 ≠ 0:=by omega
  rw [Lib.bitLen_half (x/2^20) this (by omega)];omega
 .
  exact .inr (by omega)
def MayZ (l:List Int) (wd:Int):Prop:=0<=wd/\wd<=20/\∀ x∈l,0<=x/\(Lib.bitLen x.toNat:Int)<=wd
theorem mayZ_nat {l:List Int} {wd:Int} (h:MayZ l wd) (hr:∀ x∈l,-9223372036854775808<=x/\x<=9223372036854775807):∃ (L:List Nat) (d:Nat),l=natZ L/\wd=(d:Int)/\d<=20/\∀ n∈L,n<=2000000/\Lib.bitLen n<=d:=by
 refine ⟨l.map Int.toNat,wd.toNat,?_,by have:=h.1;omega,by have:=h.2.1;omega,fun n hn=>?_⟩
 .
  unfold natZ;rw [List.map_map];have hz:∀ x∈l,((fun (n:Nat)=>(n:Int)) ∘ Int.toNat) x=id x:=fun x hx=>by
   have:=(h.2.2 x hx).1;simp;omega
  rw [List.map_congr_left hz,List.map_id]
 .
  obtain ⟨x,hx,rfl⟩:=List.mem_map.1 hn;have:=h.2.2 x hx;have h1:=h.1;have h2:=h.2.1;have h3:=hr x hx;refine ⟨?_,by omega⟩
  have hb:Lib.bitLen x.toNat<=20:=by omega
  refine Nat.le_of_not_lt fun hx=>?_
  have:=bit_big x.toNat (by omega);omega
theorem mayz_calls (l:List Int) (hl:l.length<=1000) (hr:∀ x∈l,-9223372036854775808<=x/\x<=9223372036854775807) (wd:Int) (A:Option Addr) (c:Nat) (w:World) (HL:intK.sl.M w (fun _=>True) l [.slice A l.length c]) :
  Calls Tryz.prog 37 #[.slice A l.length c,.int .i64 wd] w fun e w'=>(e=.returned (.bool false)\/(e=.returned (.bool true)/\MayZ l wd))/\w=w':=by
 have b_:=Zz (fun hp=>z_cells HL hp);have HN:=Zz hr;clear HL hr;go_enter func37,ntmps37;by_cases w0:wd<0
 .
  have q1:decide (wd<0)=true:=dT w0;go_wp2;go_ret;exact ⟨.inl rfl,rfl⟩
 have q1:decide (wd<0)=false:=dF w0;by_cases w1:20<wd
 .
  have q2:decide (20<wd)=true:=dT w1;have f_:decide (wd > 20)=true:=dT w1;go_wp2;go_ret;exact ⟨.inl rfl,rfl⟩
 have q2:decide (20<wd)=false:=dF w1;have f_:decide (wd > 20)=false:=dF w1;go_wp2;go_loopw [5] (fun vi wr=>∃ i:Nat,vi=.int .i64 i/\i<=l.length/\Hid ((∀ x∈l.take i,0<=x/\(Lib.bitLen x.toNat:Int)<=wd)/\wr=w)) (fun vi _=>l.length - (intOf vi).toNat)
 case atStart=>exact ⟨0,rfl,by omega,Zz ⟨fun x hx=>by simp at hx,rfl⟩⟩
 case round =>
  obtain ⟨i,rfl,hi,HI⟩:=hrel;obtain rfl:=HI.o.2;by_cases hlt:i<l.length
  .
   have hd:decide (i<l.length)=true:=dT hlt;have ik:(i:Int)<(l.length:Int):=by omega
   obtain ⟨b,h_,rfl,a_⟩:=b_.o (by omega);have hc:=a_ i hlt;have c_:Hid (0<=l[i]->(Lib.bitLen l[i].toNat:Int)<=wd -> ∀ x∈l.take (i+1),0<=x/\(Lib.bitLen x.toNat:Int)<=wd):=Zz (fun h1 h2 x hx=>by
    rw [Zt hlt] at hx;rcases Zk.1 hx with hx | hx
    .
     exact HI.o.1 x hx
    .
     simp at hx;subst hx;exact ⟨h1,h2⟩)
   have g_:=HN.o l[i] (Zm hlt);obtain ⟨n,d_⟩:∃ n,n=l[i]:=⟨_,rfl⟩;rw [<- d_] at hc c_ g_;clear a_ d_ HI;by_cases hn:n<0
   .
    have q3:decide (n<0)=true:=dT hn;go_wp2;go_ret;exact ⟨.inl rfl,rfl⟩
   have q3:decide (n<0)=false:=dF hn;obtain ⟨m,rfl⟩:∃ m:Nat,n=(m:Int):=⟨n.toNat,by omega⟩;have HW:=Zz (fun w=>width_calls m (by omega) w);obtain ⟨q,hq⟩:∃ q,q=Lib.bitLen m:=⟨_,rfl⟩;rw [<- hq] at HW;rw [show ((m:Int)).toNat=m from rfl,<- hq] at c_;clear hq;by_cases hqw:wd<(q:Int)
   .
    have q4:decide (wd<(q:Int))=true:=dT hqw;have e_:decide ((q:Int) > wd)=true:=dT hqw;go_wp2_with fail;refine (HW.o _).mono ?_;rintro e w4 ⟨rfl,rfl⟩;go_wp2;go_ret;exact ⟨.inl rfl,rfl⟩
   have q4:decide (wd<(q:Int))=false:=dF hqw;have e_:decide ((q:Int) > wd)=false:=dF hqw;go_wp2_with fail;refine (HW.o _).mono ?_;rintro e w4 ⟨rfl,rfl⟩;go_wp2;go_roundw
   case rel=>exact ⟨i+1,by go_num,by omega,Zz ⟨c_.o (by omega) (by omega),by first | rfl | trivial⟩⟩
   case measure=>simp [intOf];omega
  .
   have hd:decide (i<l.length)=false:=dF hlt;obtain rfl:i=l.length:=by omega
   have HZ:Hid (MayZ l wd):=Zz (by
    have h:=HI.o.1;rw [List.take_length] at h;exact ⟨by omega,by omega,h⟩)
   go_wp2;go_ret;exact ⟨.inr ⟨rfl,HZ.o⟩,by first | rfl | trivial⟩
end Ref2
namespace SMade
open Go.RowKit Go.Lib B Rd TermPure LinesPure Tri SortP OrdG StoreW StoreP FrontP FrontW PackW Env RefOf Go.Proofs.YtnplommdgfgboaaGreatDoor.Alike Ref2
theorem any_b:∀ (w:World) (ok ok':Nat->Prop) (x:UInt8) (cs:List Value),byteK.M w ok x cs->byteK.M w ok' x cs:=fun _ _ _ _ _ h=>h
theorem info_b:(Tryz.prog.info? 5).map (fun i=>(i.zero,i.size,i.bytes))=some (some (.int .u8 0),1,1):=by kernel_rfl
theorem opens_str {P:Program} {t:TypeId} (ht:P.underlying t=some .string):Opens P strK t:=fun enc w fuel cs x h hw=>by
 obtain ⟨l,rfl,hl⟩:=Tri.str_of ht h hw
 exact ⟨mkS l,rfl,show (mkS l).size<=140737488355328 by rw [mkS_size];exact hl⟩
theorem two_own (w:World) (x y:UInt8):byteK.own 5 (w.alloc (.cells #[.int .u8 (x.toNat:Int),.int .u8 (y.toNat:Int)] 5)) w.heap.size (fun _=>True) (.slice (some ⟨w.heap.size,0,none⟩) 2 2) [x,y]:=
 Kd.own_block (cells:=[.int .u8 (x.toNat:Int),.int .u8 (y.toNat:Int)]) (xs:=[x,y]) (lR _) (Kd.heap_new _ _) rfl (by simp) (fun i z h=>by
  match i with
  | 0=>simp at h;subst h;rfl
  | 1=>simp at h;subst h;rfl
  | i+2=>simp at h)
theorem walk0 (w:World) (he:Env w) (l:List (List UInt8)) (hl0:l.length<=140737488355328) (hls:∀ x∈l,x.length<=140737488355328) (A:Option Addr) (c:Nat) (HLs:strK.sl.M w (fun _=>True) (strs l) [.slice A l.length c]) (n:List Int) (hn0:n.length<=140737488355328) (hr:∀ x∈n,-9223372036854775808<=x/\x<=9223372036854775807) (B:Option Addr) (d:Nat) (HN:intK.sl.M w (fun _=>True) n [.slice B n.length d]) (wd ct:Int) (hct:-9223372036854775808<=ct/\ct<=9223372036854775807) :
  Calls Tryz.prog 12 #[.slice A l.length c,.slice B n.length d,.int .i64 wd,.int .i64 ct] w fun e w'=>e=.returned (.bool true)/\Below w.heap.size w w':=by
 have HE:=Zz he;have HR:=Zz hr;have a5:=Zz hls;have d5:Hid (∀ W,Below w.heap.size w W->strK.sl.M W (fun k=>k<W.heap.size) (strs l) [.slice A l.length c]):=Zz (fun W hb=>Kd.M_bound (Kd.M_below (Kd.M_bound HLs) hb));have a4:Hid (∀ W,Below w.heap.size w W->intK.sl.M W (fun k=>k<W.heap.size) n [.slice B n.length d]):=Zz (fun W hb=>Kd.M_bound (Kd.M_below (Kd.M_bound HN) hb));clear he hr hls HLs HN;go_enter func12,ntmps12;by_cases h40:40<l.length
 .
  have q1:=dt ((l.length:Int) > 40);have c9:=dt ((40:Int)<(l.length:Int));go_wp2;go_ret;exact ⟨rfl,bR _ _⟩
 have q1:=df ((l.length:Int) > 40);have c9:=df ((40:Int)<(l.length:Int));by_cases h120:120<n.length
 .
  have q2:=dt ((n.length:Int) > 120);have b7:=dt ((120:Int)<(n.length:Int));go_wp2;go_ret;exact ⟨rfl,bR _ _⟩
 have q2:=df ((n.length:Int) > 120);have b7:=df ((120:Int)<(n.length:Int));have b9:=Zz (mayz_calls n (by omega) HR.o wd B d w (intK.sl.mono (fun _ _ _=>trivial) (a4.o w (bR _ _))));go_wp2_with fail;refine b9.o.mono ?_;rintro e w1 ⟨hm,rfl⟩;rcases hm with rfl | ⟨rfl,hZ⟩
 .
  go_wp2;go_ret;exact ⟨rfl,bR _ _⟩
 obtain ⟨L,dd,rfl,rfl,i_,hL⟩:=mayZ_nat hZ HR.o;have e5:=Zz hL;have e6:L.length<=120:=by
  have:(natZ L).length=L.length:=by unfold natZ;simp
  omega
 clear hZ hL b9 HR;by_cases c0:ct<0
 .
  have q3:decide (ct<0)=true:=dT c0;go_wp2;go_ret;exact ⟨rfl,bR _ _⟩
 have q3:decide (ct<0)=false:=dF c0;by_cases c200:200<ct
 .
  have q4:decide (ct > 200)=true:=dT c200;have d3:decide (200<ct)=true:=dT c200;go_wp2;go_ret;exact ⟨rfl,bR _ _⟩
 have q4:=df (ct > 200);have d3:decide (200<ct)=false:=dF c200;obtain ⟨cn,rfl⟩:∃ cn:Nat,ct=(cn:Int):=⟨ct.toNat,by omega⟩;have d0:=Zz (Ref6.may6_calls l hl0 a5.o A c w (strK.sl.mono (fun _ _ _=>trivial) (d5.o w (bR _ _))));go_wp2_with fail;refine d0.o.mono ?_;rintro e w2 ⟨⟨r,rfl,u_⟩,k_⟩;have c8:=Zz k_;cases r with
 | false =>
  clear u_ k_;go_wp2;go_ret;exact ⟨rfl,c8.o⟩
 | true =>
 have b8:=Zz (u_.1 rfl);have c2:(natZ L).length=L.length:=by unfold natZ;simp
 have a_:=a4.o w2 k_;rw [c2] at a_;have b2:=Zz (pack_calls L dd i_ (by omega) e5.o B d w2 a_);rw [c2];clear u_ k_ d0 a_ a5 q1 c9 q2 b7 q3 q4 d3;go_wp2_with fail;refine b2.o.mono ?_;rintro e w3 ⟨⟨vp,rfl,a2⟩,d6⟩;have b4:=Zz (bel_step c8.o d6);have a9:=ms a2;obtain ⟨A3,c3,rfl,_,_⟩:=Kd.own_slice a2;have c1:=Zz (fun W (hW:Below w3.heap.size w3 W)=>mb a9 hW);have e1:(packB L dd).length<=400:=by
  rw [PackP.packB_len];have:L.length*dd<=120*20:=Nat.mul_le_mul e6 i_;omega
 obtain ⟨Pb,b5⟩:∃ Pb,Pb=packB L dd:=⟨_,rfl⟩;rw [<- b5] at c1 e1 |-;have s_:=Zz (Ref6.bytes_calls l (by omega) (fun x hx=>(b8.o.2.1 x hx).2) A c w3 (d5.o w3 b4.o));have e0:(frontB l).length<=11000:=by
  have h1:=upTo_len (fun x hx=>(b8.o.2.1 x hx).2) l.length (lR _);have h2:l.length*(250+2)<=40*252:=Nat.mul_le_mul (by omega) (by decide);unfold frontB headN;rw [Zl];simp only [Zc,List.length_nil];omega
 obtain ⟨Fb,a3⟩:∃ Fb,Fb=frontB l:=⟨_,rfl⟩;rw [<- a3] at s_ e0;clear a2 d6 b2 a9 b5 a3;dsimp only;go_wp2_with fail;refine s_.o.mono ?_;rintro e w4 ⟨⟨vf,rfl,v_⟩,y_⟩;have e4:=Zz (bel_step b4.o y_);have b3:=ms v_;obtain ⟨A4,c4,rfl,_,_⟩:=Kd.own_slice v_;have e7:=Zz (fun W (hW:Below w4.heap.size w4 W)=>mb b3 hW);have t_:=Zz (fun W (hW:Below w4.heap.size w4 W)=>c1.o W (bel_step y_ hW));obtain ⟨x0,a6⟩:∃ x0:UInt8,(0:Int)=(x0.toNat:Int):=⟨0,rfl⟩;obtain ⟨y0,a7⟩:∃ y0:UInt8,(cn:Int)=(y0.toNat:Int):=⟨UInt8.ofNat cn,by rw [UInt8.toNat_ofNat_of_lt' (show cn<256 by omega)]⟩;have f1:(cn:Int)/256=0:=by omega
 have d4:=Zz (two_own w4 x0 y0);rw [<- a6,<- a7] at d4;clear v_ y_ s_ b3 a6 a7;go_wp2_with (at_builtin;refine Kd.own_app byteK w4.heap.size rfl (.tmp 59) (.tmp 60) 55 5 (.int .u8 0) 1 rfl underlying55 info_b rfl (by decide) _ [x0,y0] Pb A3 c3 (fun _=>True) rfl rfl d4.o (.inr ⟨t_.o _ (bel_alloc (bR _ _) _),any_b⟩) (bel_alloc (bR _ _) _) (by simp) (by simp;omega) ?_;intro v5 w5 ho5 hb5 hg5 hv5;clear hg5 hv5;have a0:=ms ho5;have e8:([x0,y0]++Pb).length<=402:=(by simp;omega);obtain ⟨X5,a8⟩:∃ X5,X5=[x0,y0]++Pb:=⟨_,rfl⟩;rw [<- a8] at ho5 a0 e8;obtain ⟨A5,c5,rfl,_,_⟩:=Kd.own_slice ho5;have e3:=Zz a0;have e_:=Zz hb5;clear ho5 hb5 a0 a8)
 have d1:=Zz (bel_step e4.o e_.o);have e9:BoxPure.total [((1:Int),Fb),((2:Int),X5)]<=11402:=by simp only [BoxPure.total,Zc,List.length_nil];omega
 have d2:=Zz (BoxRef.refpack_calls [((1:Int),Fb),((2:Int),X5)] (by simp only [Zc,List.length_nil];omega) (by simp) _ _ (Encode.two_secs (W:=w5) (e7.o w5 e_.o) e3.o (by omega) (by omega)));have w_:(BoxPure.file [((1:Int),Fb),((2:Int),X5)]).length<=80000:=by
  rw [BoxPure.file_length];simp only [Zc,List.length_nil];omega
 obtain ⟨b,r_⟩:∃ b,b=BoxPure.file [((1:Int),Fb),((2:Int),X5)]:=⟨_,rfl⟩;rw [<- r_] at w_;have e2:=Zz r_;clear r_;have q_:Below w5.heap.size w5 (w5.alloc (.cells #[.int .i64 1,.slice A4 Fb.length c4,.int .i64 2,.slice A5 X5.length c5] 82)):=bel_alloc (bR _ _) _;refine d2.o.mono ?_;rintro e w6 ⟨p_,⟨_,vb,rfl,j_⟩ | ⟨_,rfl⟩⟩
 case inr =>
  have h_:=Zz (bel_step d1.o (bel_step q_ p_));dsimp only;go_wp2;go_ret;exact ⟨rfl,h_.o⟩
 have h_:=Zz (bel_step d1.o (bel_step q_ p_));rw [<- e2.o] at j_;have z_:=ms j_;obtain ⟨A6,c6,rfl,_,_⟩:=Kd.own_slice j_;have b1:=Zz (DecW.dec_calls b w_ A6 c6 w6 (HE.o.below h_.o) z_);have c_:=Zz (fun W (hW:Below w6.heap.size w6 W)=>RefDec.refdec_calls b w_ A6 c6 W (HE.o.below (bel_step h_.o hW)) (mb z_ hW));clear j_ p_ z_ d2 q_ e9;dsimp only;go_wp2_with fail;refine b1.o.mono ?_;rintro e w7 ⟨⟨r,hr,hm⟩,a1⟩;have d8:=Zz (bel_step h_.o a1);have HD:=Zz hr;have l_:=Zz (c_.o w7 a1);clear a1 hr c_ b1;cases r with
 | none =>
  dsimp only at hm;subst hm;dsimp only;go_wp2_with fail;refine l_.o.mono ?_;rintro e w8 ⟨⟨r2,f_,n_⟩,b_⟩;obtain rfl:r2=none:=f_.unique HD.o;dsimp only at n_;subst n_;have o_:=Zz (bel_step d8.o b_);have HK:=Zz (Known11.known_calls w8 (HE.o.below o_.o));clear b_ f_ l_;dsimp only;go_wp2_with fail;refine HK.o.mono ?_;rintro e w9 ⟨rfl,g_⟩;have m_:=Zz (bel_step o_.o g_);clear g_ HK;go_wp2;go_ret;exact ⟨rfl,m_.o⟩
 | some T =>
  obtain ⟨ga,rfl,c7⟩:=hm;have d7:=Zz ((HD.o T).1 rfl);have b0:=Zz c7;clear c7;dsimp only;go_wp2_with fail;refine l_.o.mono ?_;rintro e w8 ⟨⟨r2,f_,n_⟩,b_⟩;obtain rfl:r2=some T:=f_.unique HD.o;obtain ⟨gb,rfl,d9⟩:=n_;have o_:=Zz (bel_step d8.o b_);have b6:=Zz (alike_calls T d7.o.1 d7.o.2.2.1 ga gb w8 (b0.o.below b_) d9);clear b_ f_ l_ d9 b0;dsimp only;go_wp2_with fail;refine b6.o.mono ?_;rintro e w9 ⟨rfl,g_⟩;have m_:=Zz (bel_step o_.o g_);have HK:=Zz (Known11.known_calls w9 (HE.o.below m_.o));clear g_ b6;go_wp2_with fail;refine HK.o.mono ?_;rintro e f0 ⟨rfl,d_⟩;have x_:=Zz (bel_step m_.o d_);clear d_ HK;go_wp2;go_ret;exact ⟨rfl,x_.o⟩
theorem walk (w:World) (he:Env w) (S:List ByteArray) (v:Value) (m:strK.sl.M w (fun _=>True) S [v]) (n:List Int) (u:Value) (k:intK.sl.M w (fun _=>True) n [u]) (wd:Int) (hwd:-9223372036854775808<=wd/\wd<=9223372036854775807) (ct:Int) (hct:-9223372036854775808<=ct/\ct<=9223372036854775807) :
  Calls Tryz.prog 12 #[v,u,.int .i64 wd,.int .i64 ct] w fun e w'=>e=.returned (.bool true)/\Below w.heap.size w w':=by
 obtain ⟨A,c,hv,m1,m2,m3,m4⟩:=id m;obtain ⟨B,d,hu,k1,k2,k3,k4⟩:=id k;obtain rfl:v=.slice A S.length c:=by simpa using hv
 obtain rfl:u=.slice B n.length d:=by simpa using hu
 obtain ⟨l,rfl⟩:∃ l,S=strs l:=⟨S.map (fun x=>x.data.toList),by unfold strs;rw [List.map_map];exact (List.map_id'' (fun x=>by simp [mkS]) S).symm⟩;have a_:(strs l).length=l.length:=by unfold strs;simp
 have hr:∀ x∈n,-9223372036854775808<=x/\x<=9223372036854775807:=fun x hx=>by
  obtain ⟨i,hi,rfl⟩:=List.mem_iff_getElem.1 hx;obtain ⟨_,_,_,h,_⟩:=Kd.row_at k4 hi;exact h.2
 have c_:∀ x∈l,x.length<=140737488355328:=fun x hx=>by
  obtain ⟨i,hi,rfl⟩:=List.mem_iff_getElem.1 hx;have b_:i<(strs l).length:=by rw [a_];exact hi
  obtain ⟨_,_,_,h,_⟩:=Kd.row_at m4 b_;have h2:((strs l)[i]).size<=140737488355328:=h.2;have h3:(strs l)[i]=mkS l[i]:=by simp [strs]
  rw [h3,mkS_size] at h2;exact h2
 rw [a_];exact walk0 w he l (by have:=m2.1;omega) c_ A c (by rw [<- a_];exact m) n k2.1 hr B d k wd ct hct
end SMade
end Go.Proofs.YtnplommdgfgboaaGreatDoor
