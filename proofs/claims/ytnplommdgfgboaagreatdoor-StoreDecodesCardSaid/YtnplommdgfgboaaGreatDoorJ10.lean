import Derived.Test.YtnplommdgfgboaaGreatDoorJ9
import Derived.Lib.EndianBits
set_option linter.unusedVariables false
set_option linter.unusedSimpArgs false
set_option maxHeartbeats 25600000
set_option maxRecDepth 100000
open Go.Proofs.Tryz
namespace Go.Proofs.YtnplommdgfgboaaGreatDoor
namespace BoxUnpack
open Go.RowKit CrcPure BoxPure B CrcWalk CrcLaws BoxWalk BoxPack BoxRef
def UnpackPost (b:List UInt8) (w:World) (e:Ending) (w':World):Prop:=
 Below w.heap.size w w'/\∃ r:Option (List Sec),Reads b r/\match r with
  | none=>e = .returned (.tuple #[.slice none 0 0,.int .i64 2])
  | some l=>∃ v,e = .returned (.tuple #[v,.int .i64 0])/\secK.own 82 w' w.heap.size (fun k=>w.heap.size <= k) v l
theorem info_sec:(Tryz.prog.info? 82).map (fun i=>(i.zero,i.size,i.bytes)) = some (some (.agg #[.int .i64 0,.slice none 0 0]),2,32):=by kernel_rfl
theorem cellsB:Tryz.prog.cellsOf 5 = 1:=by kernel_rfl
theorem secs_step (n:Nat) (h b:List UInt8) (hb:num (h.drop 1) <= b.length):secs (n + 1) h b = (secs n (h.drop 7) (b.drop (num (h.drop 1)))).map fun l=>(((h.getD 0 0).toNat:Int),b.take (num (h.drop 1))) :: l:=by
 rw [secs,if_neg (by omega)]
theorem secs_stop (n:Nat) (h b:List UInt8) (hb:b.length < num (h.drop 1)):secs (n + 1) h b = none:=by
 rw [secs,if_pos hb]
theorem own_any {e:TypeId} {w:World} {base:Nat} {ok ok':Nat -> Prop} {v:Value} {xs:List UInt8} (h:byteK.own e w base ok v xs):byteK.own e w base ok' v xs:=by
 obtain ⟨h0,a_,h1,h2⟩:=h;exact ⟨h0,a_,h1,fun i x hx=>any_u8 _ _ _ _ _ (h2 i x hx)⟩
theorem sl_cut {w:World} {ok:Nat -> Prop} {g o c j:Nat} {hs:List UInt8} (h1:hs.length <= c) (h2:hs.length <= 140737488355328/\c <= maxLen) (gr:byteK.row w ok (some ⟨g,o,none⟩) hs) :
  byteK.sl.M w ok (hs.drop j) [.slice (some ⟨g,o + j,none⟩) (hs.length - j) (c - j)]:=by
 have:=Kd.u8_sl (l:=hs.drop j) (c:=c - j) (A:=some ⟨g,o + j,none⟩) (by simp;omega) (by simp;omega) (fun h=>by cases h) (by
  have:=Kd.row_drop gr j
  rwa [show (some (⟨g,o,none⟩:Addr)).map (·.add (j * byteK.sz)) = some ⟨g,o + j,none⟩ from congrArg some ((Addr.add_lit g o (j * byteK.sz)).trans (by rw [show j * byteK.sz = j from Nat.mul_one j]))] at this)
 rwa [Zj] at this
theorem sec_row {w2 W':World} {u7 v2:Value} {body:List UInt8} {n:Int} {base wc:Nat} (HT:byteK.own 5 w2 wc T v2 body) (h0:base <= wc) (hlt:∀ k,u7.ownBlock = some k -> k < wc)
  (hwc:wc <= w2.heap.size) (hid:0 <= n/\n <= 255) (hb:Below w2.heap.size w2 W') (hC:Kd.bi W' w2.heap.size #[.int .i64 n,v2]) :
  secK.sl.M W' (fun k=>base <= k/\some k ≠ u7.ownBlock) [(n,body)] [.slice (some ⟨w2.heap.size,0,none⟩) 1 1]:=by
 have hM:byteK.sl.M W' (fun k=>base <= k/\some k ≠ u7.ownBlock) body [v2]:=
  Kd.own_sl (Kd.own_below (own_any (ok':=fun _=>False) HT) hb) (fun k hk=>⟨by omega,fun e=>by have:=hlt k e.symm;omega⟩) (fun k hk=>hk.elim)
 have hR:secK.row W' (fun k=>base <= k/\some k ≠ u7.ownBlock) (some ⟨w2.heap.size,0,none⟩) [(n,body)]:=
  Kd.row_one (d:=secK) hC ⟨by omega,fun e=>by have:=hlt _ e.symm;omega⟩ (show secK.M W' _ (n,body) [.int .i64 n,v2] from ⟨[.int .i64 n],[v2],rfl,⟨rfl,by dsimp only;omega⟩,hM⟩)
 exact ⟨_,1,rfl,by simp,⟨by simp,by simp [maxLen]⟩,(fun h=>by cases h),hR⟩
theorem unpack_calls (b:List UInt8) (v:Value) (w:World) (m:byteK.sl.M w T b [v]) :
  Calls Tryz.prog 66 #[v] w (UnpackPost b w):=by
 obtain ⟨A,c,hv,h1,h2,h3,v_⟩:=m;simp at hv;subst hv;have HR:=Zz (Kd.row_mono (ok':=fun k=>k < w.heap.size) (fun k _ hk=>hk) v_);have HM:=Zz (Kd.u8_sl h1 h2 h3 v_);clear v_;obtain ⟨j_,b5⟩:=h2;have HC:=Zz b5;clear b5;by_cases c6:b.length < 6
 .
  have q1:decide ((b.length:Int) < 6) = true:=dT (by omega);have HN:=Zz (reads_short (b:=b) (.inl (by omega)));go_enter func66,ntmps66;go_wp2;go_ret2;exact ⟨bR _ _,none,HN.o,rfl⟩
 .
  have q1:decide ((b.length:Int) < 6) = false:=dF (by omega);obtain ⟨ba,i_,rfl,a_⟩:=u8_plain HR.o (by omega);have d2:=a_ 5 (by omega);have HG:Hid (b.getD 5 0 = b[5]):=Zz (getD_at b 5 (by omega));have c7:=b[5].toNat_lt;clear a_;have i5:(5:Int) < (b.length:Int):=by omega
  generalize hbn:b[5] = bn at *;clear hbn;by_cases cl:b.length < 9 + 7 * bn.toNat
  .
   have q2:decide ((b.length:Int) < 6 + 7 * (bn.toNat:Int) + 3) = true:=dT (by omega);have HN:=Zz (reads_short (b:=b) (.inr (.inl (by rw [HG.o];exact cl))));go_enter func66,ntmps66;go_wp2;go_ret2;exact ⟨bR _ _,none,HN.o,rfl⟩
  .
   have q2:decide ((b.length:Int) < 6 + 7 * (bn.toNat:Int) + 3) = false:=dF (by omega);generalize hnn:bn.toNat = n at *;obtain ⟨A1,-,n_,-,e_⟩:=Kd.cut_run (P:=Tryz.prog) byteK 55 5 underlying55 cellsB (.int .u8 0) 1 info_u8 (some ⟨ba,i_,none⟩) b.length c 6 b.length (by omega) (lR _) h1 ⟨j_,HC.o⟩ h3;obtain ⟨A2,-,l_,-,g_⟩:=Kd.cut_run (P:=Tryz.prog) byteK 55 5 underlying55 cellsB (.int .u8 0) 1 info_u8 (some ⟨ba,i_,none⟩) b.length c (9 + 7 * n) b.length (by omega) (lR _) h1 ⟨j_,HC.o⟩ h3;have e6:∀ (kl:IntKind) (w:World),(Instr.slice 55 (.slice (some ⟨ba,i_,none⟩) b.length c) (some (.int kl 6)) none none).run Tryz.prog w = .ok (.slice A1 (b.length - 6) (c - 6)) w:=fun kl w=>n_ kl w rfl
   have b9:∀ (kl:IntKind) (w:World),(Instr.slice 55 (.slice (some ⟨ba,i_,none⟩) b.length c) (some (.int kl (6 + 7 * (n:Int) + 3))) none none).run Tryz.prog w = .ok (.slice A2 (b.length - (9 + 7 * n)) (c - (9 + 7 * n))) w:=fun kl w=>by
    have:=l_ kl w rfl;rw [show ((9 + 7 * n:Nat):Int) = 6 + 7 * (n:Int) + 3 by omega] at this;exact this
   have z_:=Zz (e_ w _ b rfl HR.o);have u_:=Zz (g_ w _ b rfl HR.o);clear n_ l_ e_ g_;have ww:IntKind.i64.wrap (7 * (n:Int)) = 7 * (n:Int):=by rw [Zw];omega
   have c3:IntKind.i64.wrap (6 + 7 * (n:Int)) = 6 + 7 * (n:Int):=by rw [Zw];omega
   have e8:IntKind.i64.wrap (6 + 7 * (n:Int) + 3) = 6 + 7 * (n:Int) + 3:=by rw [Zw];omega
   go_enter func66,ntmps66;go_upto_region 6 with fail
   go_quiet (fail);go_wp2_with fail;have a1:=Zz (bel_drewN (bR w.heap.size w) nq);have a7:Hid (secs n (b.drop 6) (b.drop (9 + 7 * n)) = (secs (n - 0) (b.drop 6) (b.drop (9 + 7 * n))).map ([] ++ ·)):=by
    refine Zz ?_;simp
   have a5:7 * (n - 0) + 3 <= (b.drop 6).length:=by simp;omega
   have b3:(b.drop (9 + 7 * n)).length <= 140737488355328:=by simp;omega
   rw [List.take_length] at z_ u_;rw [show b.length - 6 = (b.drop 6).length by simp] at *;rw [show b.length - (9 + 7 * n) = (b.drop (9 + 7 * n)).length by simp] at *;have c_:Hid (parse b = secs n (b.drop 6) (b.drop (9 + 7 * n))):=by
    refine Zz ?_;unfold parse;rw [HG.o,hnn]
   have b4:n <= 255:=by omega
   clear e6 b9 ww c3 e8 q1 q2 d2 i5 hnn HG c7 c6 cl;generalize c - 6 = c1 at *;generalize c - (9 + 7 * n) = c2 at *;generalize hH:b.drop 6 = H0 at *;generalize hB:b.drop (9 + 7 * n) = B0 at *;clear hH hB;go_loopw [5,6,7,34] (fun v5 v6 v7 vi wr=>∃ (k:Nat) (hs bs:List UInt8) (ls:List Sec),k <= n/\vi = .int .i64 k/\Hid (byteK.sl.M w (fun k=>k < w.heap.size) hs [v5])/\Hid (byteK.sl.M w (fun k=>k < w.heap.size) bs [v6]) /\
    7 * (n - k) + 3 <= hs.length/\bs.length <= 140737488355328/\Hid (secs n H0 B0 = (secs (n - k) hs bs).map (ls ++ ·))/\ls.length = k/\Hid (secK.own 82 wr w.heap.size (fun k=>w.heap.size <= k) v7 ls)/\Hid (Below w.heap.size w wr)) (fun _ _ _ vi _=>n - (intOf vi).toNat)
   case atStart=>exact ⟨0,H0,B0,[],by omega,rfl,z_,u_,a5,b3,a7,rfl,Zz (Kd.own_nil _ _ _ _ _),a1⟩
   case round =>
    clear z_ u_ a5 b3 a7 a1 nq;obtain ⟨k,hs,bs,ls,hk,rfl,b7,c0,e9,f3,HI,f4,HO,HB⟩:=hrel;by_cases hlt:k < n
    .
     obtain ⟨Ah,ch,hv,g1,g2,g3,gr⟩:=b7.o;simp at hv;subst hv;obtain ⟨Ab,cb,hv,e1,e2,e3,er⟩:=c0.o;simp at hv;subst hv;have d3:decide ((k:Int) < (n:Int)) = true:=dT (by omega);obtain ⟨m,hm⟩:∃ m,n - k = m + 1:=⟨n - k - 1,by omega⟩;rw [hm] at HI;obtain ⟨gh,oh,rfl,a_⟩:=u8_plain gr (by omega);have q_:=a_ 0 (by omega);clear a_;rw [Nat.add_zero] at q_;have b1:=Zz (getD_at hs 0 (by omega));have a3:=Zz (sl_cut (j:=1) g1 g2 gr);have c8:=Zz (sl_cut (j:=7) g1 g2 gr);have f2:0 < hs.length:=by omega
     have e7:7 * (n - (k + 1)) + 3 <= (hs.drop 7).length:=by simp;omega
     have b2:=fun (wx:World) (h:Below w.heap.size w wx)=>number_calls (hs.drop 1) (by simp;omega) _ _ wx (byteK.sl.M_old a3.o h)
     clear gr b7 a3;go_wp2_with fail;refine (b2 _ HB.o).mono ?_;rintro e wn ⟨rfl,nq,rfl⟩;clear b2;have d4:=num_lt (hs.drop 1);have a4:=Zz (secs_step m hs bs);have b0:=Zz (secs_stop m hs bs);generalize num (hs.drop 1) = sz at *;by_cases hsz:bs.length < sz
     .
      have hd:decide (bs.length < sz) = true:=dT hsz;have HN:Hid (Reads b none):=Zz (reads_of_parse_none (by rw [c_.o,HI.o,b0.o hsz];rfl));go_wp2_with fail;go_ret2;exact ⟨bel_drewN HB.o _,none,HN.o,rfl⟩
     .
      have hd:decide (bs.length < sz) = false:=dF hsz;have f0:=hs[0].toNat_lt;have w_:=Zz (a4.o (by omega));rw [b1.o] at w_;have d0:(bs.take sz).length = sz:=by simp;omega
      obtain ⟨e5,-,-,k_,f_⟩:=Kd.cut_run (P:=Tryz.prog) byteK 55 5 underlying55 cellsB (.int .u8 0) 1 info_u8 Ab bs.length cb 0 sz (by omega) (by omega) e1 e2 e3;have e0:=fun (kl:IntKind) (w:World)=>k_ kl w rfl
      have r_:=Zz (f_ w _ bs rfl er);obtain ⟨f1,-,m_,-,d_⟩:=Kd.cut_run (P:=Tryz.prog) byteK 55 5 underlying55 cellsB (.int .u8 0) 1 info_u8 Ab bs.length cb sz bs.length (by omega) (lR _) e1 e2 e3;have c5:=fun (kl:IntKind) (w:World)=>m_ kl w rfl
      have s_:=Zz (d_ w _ bs rfl er);rw [List.take_length] at s_;rw [List.drop_zero] at r_;simp only [Nat.sub_zero] at e0 r_;rw [show bs.length - sz = (bs.drop sz).length by simp] at c5 s_;have d7:(bs.drop sz).length <= 140737488355328:=by simp;omega
      have d9:Hid (secs n H0 B0 = (secs m (hs.drop 7) (bs.drop sz)).map ((ls ++ [((hs[0].toNat:Int),bs.take sz)]) ++ ·)):=by
       refine Zz ?_;rw [HI.o,w_.o,Option.map_map];congr 1;funext q;simp
      clear k_ f_ m_ d_ a4 b0 w_ HI b1 er;generalize cb - sz = cr at *;generalize bs.drop sz = rest at *;generalize bs.take sz = body at *;subst d0;generalize hs.drop 7 = hs7 at *;generalize hs[0] = x0 at *;have p_:Hid (secK.own 82 (wr.drewN nq) w.heap.size (fun k=>w.heap.size <= k) u7 ls):=Zz (Kd.own_move (w:=wr) (w1:=wr.drewN nq) (fun _ _ _=>rfl) HO.o);have a2:=Zz (bel_drewN HB.o nq);generalize wr.drewN nq = wy at *;clear HO HB;go_wp2_with fail;go_cut [7] (fun v7 wx=>Hid (secK.own 82 wx w.heap.size (fun k=>w.heap.size <= k) v7 (ls ++ [((x0.toNat:Int),body)]))/\Hid (Below w.heap.size w wx))
      case first =>
       have hB:=a2.o;have wx:IntKind.i64.wrap (x0.toNat:Int) = (x0.toNat:Int):=by rw [Zw];omega
       have h_:Hid (∀ W,Below w.heap.size w W -> Calls Tryz.prog 110 #[.slice e5 body.length cb] W (NewBytes body W)):=
        Zz (fun W h=>clone_calls body _ W (byteK.sl.mono (fun _ _ _=>trivial) (byteK.sl.M_old r_.o h)))
       go_region_held3 (fun w'=>w'.cell? ⟨gh,oh,none⟩ = some (.int .u8 (x0.toNat:Int)))
        (exact cell_same q_ ((show Below w.heap.size w _ by (repeat (first | assumption | refine bel_alloc ?_ _ | refine bel_drew ?_))).block _ (cell_lt q_)))
        (first
         | (go_at_call 110;go_loud (refine (h_.o _ (by (repeat (first | exact hB | refine bel_drew ?_)))).mono ?_);rintro e w2 ⟨v2,rfl,a0,x_⟩;obtain ⟨A9,c9,rfl,_,_⟩:=Kd.own_slice a0;have HT:=Zz a0;have d5:Below w.heap.size w w2:=bel_step (by (repeat (first | exact hB | refine bel_drew ?_))) x_;have e4:Hid (secK.own 82 w2 w.heap.size (fun k=>w.heap.size <= k) u7 ls):=Zz (Kd.own_below (by (repeat (first | exact p_.o | refine Kd.own_drew ?_))) x_);clear a0)
         | (refine Kd.own_app_step secK (w0:=w) w.heap.size (by rfl) (.tmp 43) (.tmp 53) 84 82 (.agg #[.int .i64 0,.slice none 0 0]) 32 (by rfl) underlying84 info_sec rfl (by decide) u7 ls [((x0.toNat:Int),body)] (some ⟨w2.heap.size,0,none⟩) 1 (fun k=>w.heap.size <= k) (by rfl) (by rfl) ?ho (.inl ?hr) ?hb ?hs ?hl ?_;go_loud (case hl=>simp;omega);go_loud (case ho=>repeat (first | exact e4.o | refine Kd.own_alloc ?_ _ | refine Kd.own_drew ?_));go_loud (case hr=>exact sec_row HT.o hB.size (fun k hk=>(Kd.own_lt p_.o k hk).2) x_.size ⟨by omega,by omega⟩ (by (repeat (first | exact bR _ _ | refine bel_alloc ?_ _ | refine bel_drew ?_))) (by repeat (first | exact Kd.bi_new (by simp) | refine Kd.bi_old ?_ | refine Kd.bi_drew ?_)));go_loud (case hb=>repeat (first | assumption | refine bel_alloc ?_ _ | refine bel_drew ?_));go_loud (case hs=>have:=d5.size;simp;omega);intro v4 w4 ho4 hb4 hg4 hv4;have d6:=Zz ho4;clear ho4 hg4 hv4)
         | fail)
       go_wp2_with fail;go_meet;exact ⟨d6,Zz hb4⟩
      case rest =>
       clear p_ a2;obtain ⟨HO,HB⟩:=hcut;go_upto_region 14 with fail
       go_quiet (fail);go_wp2_with fail;go_roundw
       case rel=>exact ⟨k + 1,hs7,rest,ls ++ [((x0.toNat:Int),body)],by omega,by go_num,c8,s_,e7,d7,Zz (by rw [d9.o,show n - (k + 1) = m by omega]),by simp;omega,Zz (Kd.own_move (w:=wc) (fun _ _ _=>rfl) HO.o),Zz (bel_drewN HB.o _)⟩
       case measure=>simp [intOf];omega
    .
     obtain rfl:k = n:=by omega
     have d3:decide ((k:Int) < (k:Int)) = false:=by simp
     have b8:Hid (parse b = some ls):=Zz (by rw [c_.o,HI.o,Nat.sub_self];simp [secs]);have a8:=Zz (reads_of_parse b8.o);have a9:Hid (secK.sl.M wr T ls [u7]):=Zz (Kd.own_sl HO.o (fun _ _=>trivial) (fun _ _=>trivial));have a6:=Zz (pack_calls ls u7 wr a9.o);go_wp2_with fail;refine a6.o.mono ?_;clear a6 a9;rintro e w1 ⟨y_,c4⟩;have o_:=Zz (bel_step HB.o y_);have d1:=Zz (Kd.own_below HO.o y_);rcases c4 with ⟨hMay,vp,rfl,hop⟩ | ⟨hMay,rfl⟩
     .
      have b6:=Zz hop;clear hop y_;have t_:=Zz hMay;clear hMay;have b_:Hid (Reads b (if file ls = b then some ls else none)):=Zz (by
       have:=a8.o;by_cases hf:file ls = b
       .
        rw [if_pos ⟨t_.o,hf⟩] at this;rw [if_pos hf];exact this
       .
        rw [if_neg (fun h=>hf h.2)] at this;rw [if_neg hf];exact this)
      generalize file ls = fl at *;have d8:=Zz (fun (W:World) (h:Below w1.heap.size w1 W)=>equal_calls fl b vp (.slice (some ⟨ba,i_,none⟩) b.length c) T T W (Kd.own_sl (Kd.own_below b6.o h) (fun _ _=>trivial) (fun _ _=>trivial)) (Kd.M_below HM.o (bel_step o_.o h)));obtain ⟨Ap,cp,rfl,_,_⟩:=Kd.own_slice b6.o;go_wp2_with fail;refine (d8.o _ (bR _ _)).mono ?_;rintro e w2 ⟨rfl,rfl⟩;by_cases hf:fl = b
      .
       have hd:(fl == b) = true:=by simp [hf]
       rw [if_pos hf] at b_;rw [hd];go_wp2_with fail;go_ret2;exact ⟨o_.o,some ls,b_.o,_,rfl,d1.o⟩
      .
       have hd:(fl == b) = false:=by simp [hf]
       rw [if_neg hf] at b_;rw [hd];go_wp2_with fail;go_ret2;exact ⟨o_.o,none,b_.o,rfl⟩
     .
      have b_:Hid (Reads b none):=Zz (by
       have:=a8.o
       rwa [if_neg (fun h=>hMay h.1)] at this)
      go_wp2_with fail;go_ret2;exact ⟨o_.o,none,b_.o,rfl⟩
end BoxUnpack
namespace SecTwo
open Go.RowKit Go.Lib B BoxPure BoxWalk BoxPack
theorem sec_at {w:World} {ok:Nat -> Prop} {l:List Sec} {A:Option Addr} {c:Nat} (h:secK.sl.M w ok l [.slice A l.length c]) (hp:0 < l.length) :
  ∃ b off,A = some ⟨b,off,none⟩/\b < w.heap.size/\∀ i (hi:i < l.length),∃ Ai ci,w.cell? ⟨b,off + i * 2 + 1,none⟩ = some (.slice Ai l[i].2.length ci)/\byteK.sl.M w ok l[i].2 [.slice Ai l[i].2.length ci]:=by
 obtain ⟨A',c',he,f_,_,hA,c_⟩:=h;obtain ⟨rfl,rfl⟩:A = A'/\c = c':=by simpa using he
 obtain ⟨b,off,e_,_,hb,a_⟩:=Kd.row_addr c_ hp;refine ⟨b,off,e_,hb,fun i hi=>?_⟩;obtain ⟨cs,hM,b_⟩:=a_ i hi;obtain ⟨a1,a2,rfl,h1,h2⟩:=hM;obtain ⟨Ai,ci,hv,_⟩:=id h2;obtain ⟨d_,_⟩:=h1;subst d_;subst hv;refine ⟨Ai,ci,?_,h2⟩;have:=b_ 1 (.slice Ai l[i].2.length ci) (by rfl);exact this
end SecTwo
namespace FrontW
open Go.RowKit Go.Lib B Rd StoreW Clones FrontP
def GoodF (l:List (List UInt8)) (i:Nat):Prop:=∀ (h:i < l.length),l[i] ≠ []/\l[i].length <= 250/\∀ (h':0 < i),l[i - 1] < l[i]
theorem may_good {l:List (List UInt8)} (h3:l.length <= 300) (h:∀ i,i < l.length -> GoodF l i):MayF l:=by
 refine ⟨h3,fun x hx=>?_,?_⟩
 .
  obtain ⟨i,hi,rfl⟩:=List.getElem_of_mem hx;have:=h i hi hi;exact ⟨this.1,this.2.1⟩
 .
  rw [List.pairwise_iff_getElem];intro i j hi hj hij;have a_:∀ d (hd:i + d + 1 < l.length),l[i] < l[i + d + 1]:=by
   intro d
   induction d with
   | zero=>exact fun hd=>(h (i + 0 + 1) hd hd).2.2 (by omega)
   | succ d ih =>
    intro hd;have h1:=ih (by omega);have h2:=(h (i + (d + 1) + 1) hd hd).2.2 (by omega);have e:i + (d + 1) + 1 - 1 = i + d + 1:=by omega
    simp only [e] at h2;exact List.lt_trans h1 h2
  have:=a_ (j - i - 1) (by omega);have e:i + (j - i - 1) + 1 = j:=by omega
  simp only [e] at this;exact this
theorem new_bad (l:List (List UInt8)) (hl:l.length <= 140737488355328) (hs:∀ x ∈ l,x.length <= 140737488355328) (hn:¬ MayF l) (A:Option Addr) (c:Nat) (w:World) (HL:strK.sl.M w (fun _=>True) (strs l) [.slice A l.length c]) :
  Calls Tryz.prog 57 #[.slice A l.length c] w fun e w'=>e = .returned (.tuple #[.pointer none,.int .i64 1])/\Below w.heap.size w w':=by
 have f_:=Zz (fun hp=>str_cells HL hp);have HS:=Zz hs;have HN:=Zz hn;clear hs hn HL;go_enter func57,ntmps57;by_cases h3:300 < l.length
 .
  have j_:decide ((300:Int) < (l.length:Int)) = true:=dT (by omega);go_wp2;go_ret2;exact ⟨rfl,bR _ _⟩
 have j_:decide ((300:Int) < (l.length:Int)) = false:=dF (by omega);have n_:=Zz (fun h=>HN.o (may_good (l:=l) (by omega) h));go_wp2;go_loopw [11] (fun vk wr=>∃ k:Nat,vk = .int .i64 k/\k <= l.length/\w = wr/\Hid (∀ i,i < k -> GoodF l i)) (fun vk _=>l.length - (intOf vk).toNat)
 case atStart=>exact ⟨0,rfl,by omega,rfl,Zz (fun i h=>by omega)⟩
 case round =>
  obtain ⟨k,rfl,hk,rfl,HG⟩:=hrel;by_cases hlt:k < l.length
  .
   have hd:decide ((k:Int) < (l.length:Int)) = true:=dT (by omega);have u_:decide (k < l.length) = true:=dT hlt;have ik:(k:Int) < (l.length:Int):=by omega
   obtain ⟨b,s_,rfl,_,r_,a_⟩:=f_.o (by omega);have l_:=a_ k hlt;obtain ⟨x,hx⟩:∃ x,x = l[k]:=⟨_,rfl⟩;rw [<- hx] at l_;have e_:=HS.o x (by rw [hx];exact Zm hlt);have zx:=mkS_size x;have tx:=mkS_toList x;have HX:=Zz hx;clear hx;by_cases hem:x = []
   .
    have h_:x.isEmpty = true:=by rw [hem];rfl
    have i_:(x == []) = true:=by rw [hem];rfl
    have o_:x.length = 0:=by rw [hem];rfl
    clear hem a_;go_wp2;go_ret2;exact ⟨rfl,bR _ _⟩
   have h_:x.isEmpty = false:=by cases x with
    | nil=>exact absurd rfl hem
    | cons a x=>rfl
   have i_:(x == []) = false:=by simpa using hem
   by_cases hbig:250 < x.length
   .
    have g_:decide ((250:Int) < (x.length:Int)) = true:=dT (by omega);clear hem a_;go_wp2;go_ret2;exact ⟨rfl,bR _ _⟩
   have g_:decide ((250:Int) < (x.length:Int)) = false:=dF (by omega);have k_:=Zz hem;clear hem;by_cases h0:k = 0
   .
    subst h0;have d_:Hid (∀ i,i < 1 -> GoodF l i):=Zz (fun i hi h=>by
     have:i = 0:=by omega
     subst this;rw [<- HX.o];exact ⟨k_.o,by omega,fun h'=>absurd h' (Nat.lt_irrefl 0)⟩)
    clear a_ e_;simp only [Nat.add_zero] at l_;go_wp2;go_roundw
    case rel=>exact ⟨1,by go_num,by omega,trivial,d_⟩
    case measure=>simp [intOf];omega
   .
    have t_:decide ((0:Int) < (k:Int)) = true:=dT (by omega);obtain ⟨j,hj⟩:∃ j,j = k - 1:=⟨_,rfl⟩;have v_:IntKind.i64.wrap ((k:Int) - 1) = (j:Int):=by rw [Zw];omega
    have ij:(j:Int) < (l.length:Int):=by omega
    have m_:j < l.length:=by omega
    have p_:=a_ j m_;obtain ⟨y,hy⟩:∃ y,y = l[j]:=⟨_,rfl⟩;rw [<- hy] at p_;have ty:=mkS_toList y;have HY:=Zz hy;have HJ:=Zz hj;clear hy hj a_;by_cases hyx:y < x
    .
     have c_:Op.bytesLess (mkS y).toList (mkS x).toList = true:=by rw [Cmp.less_eq];exact dT hyx
     have b_:Op.bytesLess y x = true:=by rw [Go.Proofs.bytesLess_eq];exact dT hyx
     have d_:Hid (∀ i,i < k + 1 -> GoodF l i):=Zz (fun i hi=>by
      by_cases hik:i < k
      .
       exact HG.o i hik
      .
       have:i = k:=by omega
       subst this;intro h;refine ⟨by rw [<- HX.o];exact k_.o,by rw [<- HX.o];omega,fun h'=>?_⟩;have e:l[i - 1] = l[j]:=by congr 1;exact HJ.o.symm
       rw [<- HX.o,e,<- HY.o];exact hyx)
     have q_:=Zz hyx;clear hyx e_;go_wp2;go_roundw
     case rel=>exact ⟨k + 1,by go_num,by omega,trivial,d_⟩
     case measure=>simp [intOf];omega
    .
     have c_:Op.bytesLess (mkS y).toList (mkS x).toList = false:=by rw [Cmp.less_eq];exact dF hyx
     have b_:Op.bytesLess y x = false:=by rw [Go.Proofs.bytesLess_eq];exact dF hyx
     clear hyx e_;go_wp2;go_ret2;exact ⟨rfl,bR _ _⟩
  .
   exact (n_.o (fun i hi=>HG.o i (by omega))).elim
end FrontW
namespace BytesEq
open Go.RowKit Go.Lib B Rd
theorem conv_bytes {w:World} {l:List UInt8} {A:Option Addr} {c:Nat} {ok:Nat -> Prop} (h:byteK.sl.M w ok l [.slice A l.length c]):(convert 55 9 (.slice A l.length c)).run Tryz.prog w = .ok (.string (mkS l)) w:=by
 obtain ⟨A',c',he,_,_,_,hr⟩:=h;obtain ⟨rfl,rfl⟩:A = A'/\c = c':=by simpa using he
 exact conv_string (P:=Tryz.prog) underlying55 underlying5 underlying9 hr
theorem equal_calls (x y:List UInt8) (A B:Option Addr) (c d:Nat) (ok:Nat -> Prop) (w:World) (hx:byteK.sl.M w ok x [.slice A x.length c]) (hy:byteK.sl.M w ok y [.slice B y.length d]) :
  Calls Tryz.prog 72 #[.slice A x.length c,.slice B y.length d] w fun e w'=>e = .returned (.bool (decide (x = y)))/\w = w':=by
 have h1:=conv_bytes hx;have h2:=conv_bytes hy;have h3:=Cmp.beq_eq x y;have tx:=mkS_toList x;have ty:=mkS_toList y;have h4:(x == y) = decide (x = y):=by
  by_cases h:x = y
  .
   subst h;simp
  .
   simp [h]
 generalize decide (x = y) = r at *;clear hx hy;go_enter func72,ntmps72;go_wp2;go_ret;exact ⟨rfl,rfl⟩
end BytesEq
namespace FrontW
open Go.RowKit Go.Lib B Rd StoreW Clones FrontP BoxWalk BoxUnpack
theorem readN_two {n:Nat} {last:List UInt8} {r0 r1:UInt8} {rest:List UInt8} (h0:r0.toNat <= last.length) (h1:r1.toNat <= rest.length) :
  readN (n + 1) last (r0 :: r1 :: rest) = (readN n (last.take r0.toNat ++ rest.take r1.toNat) (rest.drop r1.toNat)).map fun l=>(last.take r0.toNat ++ rest.take r1.toNat) :: l:=by
 rw [readN,if_pos ⟨h0,h1⟩]
theorem readN_no {n:Nat} {last:List UInt8} {r0 r1:UInt8} {rest:List UInt8} (h:¬ (r0.toNat <= last.length/\r1.toNat <= rest.length)):readN (n + 1) last (r0 :: r1 :: rest) = none:=by
 rw [readN,if_neg h]
theorem readN_short {n:Nat} {last rs:List UInt8} (h:rs.length < 2):readN (n + 1) last rs = none:=by
 match rs,h with
 | [],_=>rfl
 | [a],_=>rfl
theorem one_strs (W:World) (X:List UInt8) (h:X.length <= 140737488355328):strK.sl.M (W.alloc (.cells #[.string (mkS X)] 9)) (fun _=>True) [mkS X] [.slice (some ⟨W.heap.size,0,none⟩) 1 1]:=by
 have z:=mkS_size X;refine ⟨some ⟨W.heap.size,0,none⟩,1,rfl,lR _,⟨by simp,by unfold maxLen;omega⟩,fun h=>(by cases h),fun i x hx=>?_⟩
 match i with
 | 0 =>
  simp at hx;subst hx;refine ⟨_,[.string (mkS X)],rfl,trivial,⟨rfl,by show (mkS X).size <= _;rw [z];omega⟩,fun j u hu=>?_⟩;rw [add_plain,World.cell?,Kd.heap_new]
  match j with
  | 0=>simp at hu;subst hu;rfl
  | j + 1=>simp at hu
 | i + 1=>simp at hx
theorem strs_add (l:List (List UInt8)) (x:List UInt8):strs l ++ [mkS x] = strs (l ++ [x]):=by simp [strs]
def RdPost (b:List UInt8) (w:World) (e:Ending) (w':World):Prop:=
 (∃ r,ReadsF b r/\match r with
  | none=>e = .returned (.tuple #[.pointer none,.int .i64 2])
  | some L=>∃ g,e = .returned (.tuple #[.pointer (some ⟨g,0,none⟩),.int .i64 0])/\DictAt w' (fun _=>True) g L)/\Below w.heap.size w w'
theorem read_calls (b:List UInt8) (hb:b.length <= 100000) (A:Option Addr) (c:Nat) (w:World) (HL:byteK.sl.M w (fun _=>True) b [.slice A b.length c]) :
  Calls Tryz.prog 67 #[.slice A b.length c] w (RdPost b w):=by
 have HM:=Zz (Kd.M_bound HL);obtain ⟨A',c',hv,h1,h2,h3,d1⟩:=HL;obtain ⟨rfl,rfl⟩:A = A'/\c = c':=by simpa using hv
 have HR:=Zz (Kd.row_mono (ok':=fun k=>k < w.heap.size) (fun k _ hk=>hk) d1);clear d1;by_cases c2:b.length < 2
 .
  have q1:decide ((b.length:Int) < 2) = true:=dT (by omega);have HN:=Zz (readsF_fail (b:=b) (by unfold parseF;rw [if_pos c2]));go_enter func67,ntmps67;go_wp2;go_ret2;exact ⟨⟨none,HN.o,rfl⟩,bR _ _⟩
 have q1:decide ((b.length:Int) < 2) = false:=dF (by omega);obtain ⟨ba,b7,rfl,a_⟩:=u8_plain HR.o (by omega);have b8:=a_ 0 (by omega);have f5:=a_ 1 (by omega);rw [Nat.add_zero] at b8;obtain ⟨n,hn⟩:∃ n,n = countF b:=⟨_,rfl⟩;have b_:Hid (parseF b = readN n [] (b.drop 2)):=Zz (by unfold parseF;rw [if_neg c2,hn]);have b9:(b[0].toNat:Int) * 256 + (b[1].toNat:Int) = (n:Int):=by
  rw [hn];unfold countF;rw [List.getD_eq_getElem?_getD,List.getD_eq_getElem?_getD,Zg (by omega),Zg (by omega)];simp
 have l0:=b[0].toNat_lt;have l1:=b[1].toNat_lt;obtain ⟨p0,d4⟩:∃ p0,p0 = b[0].toNat:=⟨_,rfl⟩;obtain ⟨p1,d9⟩:∃ p1,p1 = b[1].toNat:=⟨_,rfl⟩;rw [<- d4] at b8 b9 l0;rw [<- d9] at f5 b9 l1;have i0:(0:Int) < (b.length:Int):=by omega
 have i1:(1:Int) < (b.length:Int):=by omega
 have h6:IntKind.i64.wrap ((p0:Int) * 256) = (p0:Int) * 256:=by rw [Zw];omega
 have i6:IntKind.i64.wrap ((p0:Int) * 256 + (p1:Int)) = (n:Int):=by rw [Zw];omega
 have h9:n <= 65535:=by omega
 obtain ⟨A1,-,r_,-,g_⟩:=Kd.cut_run (P:=Tryz.prog) byteK 55 5 underlying55 cellsB (.int .u8 0) 1 PackW.info_u8 (some ⟨ba,b7,none⟩) b.length c 2 b.length (by omega) (lR _) h1 h2 h3;have h0:∀ (kl:IntKind) (w:World),(Instr.slice 55 (.slice (some ⟨ba,b7,none⟩) b.length c) (some (.int kl 2)) none none).run Tryz.prog w = .ok (.slice A1 (b.length - 2) (c - 2)) w:=fun kl w=>r_ kl w rfl
 have s_:=Zz (g_ w _ b rfl HR.o);rw [List.take_length] at s_;clear r_ g_ a_ hn d4 d9;obtain ⟨R0,a3⟩:∃ R0,R0 = b.drop 2:=⟨_,rfl⟩;have g5:R0.length <= 100000:=by rw [a3];simp;omega
 rw [<- a3] at b_ s_;clear a3;go_enter func67,ntmps67;go_upto_region 4 with fail
 go_quiet (fail);go_upto_region 5 with fail
 go_quiet (fail);have e6:Hid (strK.own 9 w w.heap.size TT (.slice none 0 0) (strs [])):=Zz (Kd.own_nil _ _ _ _ _);have d2:Hid (readN n [] R0 = (readN (n - 0) [] R0).map (([]:List (List UInt8)) ++ ·)):=Zz (by
  cases h:readN n [] R0 <;> simp [h])
 have f4:(⟨#[]⟩:ByteArray) = mkS []:=rfl;go_wp2;go_loopw [4,5,6,25] (fun v4 v5 v6 vk wr=>∃ (k:Nat) (last rs:List UInt8) (ls:List (List UInt8)),vk = .int .i64 k/\k <= n/\v5 = .string (mkS last)/\last.length <= 510/\ls.length = k/\2 * k + rs.length <= 100000/\Hid (byteK.sl.M w (fun k=>k < w.heap.size) rs [v6])/\Hid (readN n [] R0 = (readN (n - k) last rs).map (ls ++ ·))/\Hid (∀ x ∈ ls,x.length <= 510)/\Hid (strK.own 9 wr w.heap.size TT v4 (strs ls))/\Hid (Below w.heap.size w wr)) (fun _ _ _ vk _=>n - (intOf vk).toNat)
 case atStart=>exact ⟨0,[],R0,[],rfl,by omega,rfl,by simp,rfl,by omega,by first | exact s_ | (have h:=s_.o;simp at h;exact Zz h),d2,Zz (fun x hx=>by cases hx),Zz (Kd.own_nil _ _ _ _ _),Zz (by repeat (first | exact bR _ _ | refine bel_drewN ?_ _ | refine bel_drew ?_))⟩
 case round =>
  obtain ⟨k,last,rs,ls,rfl,hk,rfl,c3,b5,d6,c5,HI,b6,HO,HB⟩:=hrel;clear s_ e6 d2 h0;by_cases hlt:k < n
  .
   have hd:decide ((k:Int) < (n:Int)) = true:=dT (by omega);have e9:decide (k < n) = true:=dT hlt;obtain ⟨m,hm⟩:∃ m,n - k = m + 1:=⟨n - k - 1,by omega⟩;have e8:n - (k + 1) = m:=by omega
   rw [hm] at HI;obtain ⟨Ar,cr,hv,g1,g2,g3,gr⟩:=c5.o;simp at hv;subst hv;have zl:=mkS_size last;by_cases hsh:rs.length < 2
   .
    have hN:=readN_short (n:=m) (last:=last) hsh;have HF:=Zz (readsF_fail (b:=b) (by rw [b_.o,HI.o,hN];rfl));have e1:decide ((rs.length:Int) < 2) = true:=dT (by omega);have h5:=Zz (fun q=>bel_drewN HB.o q);clear hN gr;go_wp2;go_ret2;exact ⟨⟨none,HF.o,rfl⟩,HB.o⟩
   obtain ⟨n6,k_⟩:∃ n6,n6 = rs.length:=⟨_,rfl⟩;obtain ⟨r0,r1,rest,q_⟩:∃ r0 r1 rest,rs = r0 :: r1 :: rest:=by
    match rs,hsh with
    | [],h=>exact absurd (by simp) h
    | [a],h=>exact absurd (by simp) h
    | a :: b :: l,_=>exact ⟨a,b,l,rfl⟩
   obtain ⟨gh,oh,rfl,a_⟩:=u8_plain (Kd.row_old gr HB.o) (by omega);have q0:=a_ 0 (by omega);have a0:=a_ 1 (by omega);simp only [q_,List.getElem_cons_zero,List.getElem_cons_succ,Nat.add_zero] at q0 a0;have f8:n6 = rest.length + 2:=by rw [k_,q_];rfl
   have t0:=r0.toNat_lt;have t1:=r1.toNat_lt;obtain ⟨p,hp⟩:∃ p,p = r0.toNat:=⟨_,rfl⟩;obtain ⟨q,hq⟩:∃ q,q = r1.toNat:=⟨_,rfl⟩;have v_:=Zz (readN_no (n:=m) (last:=last) (r0:=r0) (r1:=r1) (rest:=rest));have h_:=Zz (readN_two (n:=m) (last:=last) (r0:=r0) (r1:=r1) (rest:=rest));rw [<- hp,<- hq] at v_ h_;rw [<- hp] at q0 t0;rw [<- hq] at a0 t1;rw [q_] at HI;obtain ⟨ml,a7⟩:∃ ml,ml = rest.length:=⟨_,rfl⟩;have j0:(0:Int) < (n6:Int):=by omega
   have j1:(1:Int) < (n6:Int):=by omega
   have e1:decide ((n6:Int) < 2) = false:=dF (by omega);have e5:IntKind.i64.wrap ((n6:Int) - 2) = (ml:Int):=by rw [Zw];omega
   rw [<- k_] at g1 g2;rw [<- a7] at v_ h_;have i_:=Zz gr;have o_:=Zz q_;have c7:=Zz a7;have a8:=Zz k_;have i2:ml + 2 <= n6:=by omega
   have i8:n6 <= ml + 2:=by omega
   rw [<- k_] at d6;rw [<- k_];clear a_ gr q_ hsh f8 hp hq a7 k_;by_cases hbad:last.length < p
   .
    have HF:=Zz (readsF_fail (b:=b) (by rw [b_.o,HI.o,v_.o (fun h=>by omega)];rfl));have e2:decide ((last.length:Int) < (p:Int)) = true:=dT (by omega);go_wp2;go_ret2;exact ⟨⟨none,HF.o,rfl⟩,HB.o⟩
   have e2:decide ((last.length:Int) < (p:Int)) = false:=dF (by omega);by_cases hbad2:ml < q
   .
    have HF:=Zz (readsF_fail (b:=b) (by rw [b_.o,HI.o,v_.o (fun h=>by omega)];rfl));have e3:decide ((ml:Int) < (q:Int)) = true:=dT (by omega);have e4:decide ((n6:Int) - 2 < (q:Int)) = true:=dT (by omega);go_wp2;go_ret2;exact ⟨⟨none,HF.o,rfl⟩,HB.o⟩
   have e3:decide ((ml:Int) < (q:Int)) = false:=dF (by omega);have e4:decide ((n6:Int) - 2 < (q:Int)) = false:=dF (by omega);obtain ⟨Ac,n_,-,-,e_⟩:=Kd.cut_run (P:=Tryz.prog) byteK 55 5 underlying55 cellsB (.int .u8 0) 1 PackW.info_u8 (some ⟨gh,oh,none⟩) n6 cr 2 (q + 2) (by omega) (by omega) g1 g2 g3;obtain ⟨Ad,-,m_,-,f_⟩:=Kd.cut_run (P:=Tryz.prog) byteK 55 5 underlying55 cellsB (.int .u8 0) 1 PackW.info_u8 (some ⟨gh,oh,none⟩) n6 cr (q + 2) n6 (by omega) (lR _) g1 g2 g3;obtain ⟨X1,t_⟩:∃ X1,X1 = last.take p:=⟨_,rfl⟩;obtain ⟨X2,u_⟩:∃ X2,X2 = rest.take q:=⟨_,rfl⟩;obtain ⟨j_,d_⟩:∃ j_,j_ = rest.drop q:=⟨_,rfl⟩;obtain ⟨X,hX⟩:∃ X,X = X1 ++ X2:=⟨_,rfl⟩;have g4:X1.length = p:=by rw [t_];simp;omega
   have f0:X2.length = q:=by rw [u_];simp;have:=c7.o;omega
   have y_:X.length <= 510:=by rw [hX,Zl];omega
   have f7:j_.length + q = ml:=by rw [d_];simp;have:=c7.o;omega
   have h4:Hid (readN n [] R0 = (readN (n - (k + 1)) X j_).map ((ls ++ [X]) ++ ·)):=Zz (by
    rw [HI.o,h_.o (by omega) (by omega),e8,<- t_,<- u_,<- hX,<- d_,Option.map_map];congr 1;funext l;simp)
   have d7:(rs.take (q + 2)).drop 2 = X2:=by
    rw [o_.o,u_]
    try rfl
   have l_:(rs.take n6).drop (q + 2) = j_:=by
    rw [a8.o,List.take_length,o_.o,d_]
    try rfl
   have a1:=e_ wr (fun k=>k < w.heap.size) rs a8.o.symm (Kd.row_old i_.o HB.o);have b2:=f_ w (fun k=>k < w.heap.size) rs a8.o.symm i_.o;rw [d7,show q + 2 - 2 = X2.length by omega] at a1;rw [l_] at b2;have d8:Hid (∀ nq,(convert 55 9 (.slice Ac X2.length (cr - 2))).run Tryz.prog (wr.drewN nq) = .ok (.string (mkS X2)) (wr.drewN nq)):=Zz (fun nq=>BytesEq.conv_bytes (Kd.M_below a1 (bel_drewN (bR _ _) nq)));have h8:∀ (kl kh:IntKind) (w:World),(Instr.slice 55 (.slice (some ⟨gh,oh,none⟩) n6 cr) (some (.int kl 2)) (some (.int kh (2 + (q:Int)))) none).run Tryz.prog w = .ok (.slice Ac X2.length (cr - 2)) w:=fun kl kh w=>by
    have h:=n_ kl kh w;rw [show ((q + 2:Nat):Int) = 2 + (q:Int) by omega,show q + 2 - 2 = X2.length by omega] at h;exact h
   have h7:∀ (kl:IntKind) (w:World),(Instr.slice 55 (.slice (some ⟨gh,oh,none⟩) n6 cr) (some (.int kl (2 + (q:Int)))) none none).run Tryz.prog w = .ok (.slice Ad (n6 - (q + 2)) (cr - (q + 2))) w:=fun kl w=>by
    have h:=m_ kl w rfl;rw [show ((q + 2:Nat):Int) = 2 + (q:Int) by omega] at h;exact h
   have f6:=Zz b2;have f2:mkS X1 ++ mkS X2 = mkS X:=by rw [hX,mkS_append]
   have z1:=mkS_size X1;have z2:=mkS_size X2;have i7:(mkS last).extract 0 p = mkS X1:=by rw [mkS_extract,t_];simp
   have g7:=d8.o;have ip:(p:Int) <= (last.length:Int):=by omega
   have f3:Hid (∀ x ∈ ls ++ [X],x.length <= 510):=Zz (fun x hx=>by
    rcases Zk.1 hx with h | h
    .
     exact b6.o x h
    .
     simp at h;subst h;exact y_)
   have d5:=Zz y_;have e7:X2.length <= 255:=by omega
   have g0:X1.length <= 255:=by omega
   clear n_ m_ e_ f_ t_ u_ hX d_ g4 f0 a1 b2 d7 l_ y_;go_upto_region 10 with fail
   go_quiet (fail);have c6:=Zz (strs_add ls X);have f1:(strs ls).length <= 50000:=by rw [strs_len];omega
   have w_:=HB.o.size;have hY:=bR wr.heap.size wr;obtain ⟨A4,c4,rfl,_,_⟩:=Kd.own_slice HO.o;obtain ⟨Y,a6⟩:∃ Y,Y = strs ls:=⟨_,rfl⟩;rw [<- a6] at HO c6 f1;rw [<- a6];clear a6;go_upto_region 11 with fail
   have a2:=Zz (bel_drewN HB.o nq);have f9:=Zz (Kd.own_below HO.o (bel_drewN (bR _ _) nq));have i3:=Zz (Kd.row_old i_.o a2.o);clear q0 a0 g7 d8 HO HB hY w_;generalize wr.drewN nq = wq at *;have i5:=a2.o.size;go_region_held3 (fun w'=>True)
    (exact trivial)
    (first
     | (refine Kd.own_app_step strK (w0:=w) w.heap.size (by rfl) (.tmp 64) (.tmp 66) 51 9 Clones.zero_str 16 (by rfl) underlying51 Clones.info_str rfl (by decide) (.slice A4 Y.length c4) Y [mkS X] (some ⟨wq.heap.size,0,none⟩) 1 TT (by rfl) (by rfl) ?ho (.inr ⟨?hr,Clones.any_str⟩) ?hb ?hs ?hl ?_;go_loud (case ho=>repeat (first | exact f9.o | refine Kd.own_drew ?_ | refine Kd.own_alloc ?_ _));go_loud (case hr=>exact strK.sl.mono (fun _ _ _=>trivial) (Kd.M_below (Kd.M_bound (one_strs _ X (by have:=d5.o;omega))) (by repeat (first | exact bR _ _ | refine bel_drew ?_))));go_loud (case hb=>repeat (first | exact a2.o | refine bel_drew ?_ | refine bel_alloc ?_ _));go_loud (case hs=>first | (simp;done) | (simp;omega) | omega);go_loud (case hl=>first | (simp;done) | (simp;omega) | omega);intro v1 g8 ho1 hb1 hg1 hv1;go_loud (rw [c6.o] at ho1);have b0:=Zz ho1;have x_:=Zz hb1;clear ho1 hg1 hv1)
     | fail)
   all_goals (
    have i4:ls.length + 1 = k + 1:=by omega
    go_wp2;go_roundw
    case rel=>exact ⟨k + 1,X,j_,ls ++ [X],by go_num,by omega,rfl,d5.o,by simp;omega,by omega,f6,h4,f3,b0,x_⟩
    case measure=>simp [intOf];omega)
  .
   have hd:decide ((k:Int) < (n:Int)) = false:=dF (by omega);have e9:decide (k < n) = false:=dF hlt;have b4:Hid (parseF b = some ls):=Zz (by
    have e:n - k = 0:=by omega
    rw [b_.o,HI.o,e,readN];simp)
   have g6:ls.length <= 50000:=by omega
   obtain ⟨A4,c4,rfl,_,_⟩:=Kd.own_slice HO.o;rw [strs_len];have c8:=Zz (by
    have h1:=Kd.own_sl (ok:=TT) (ok':=fun _=>True) HO.o (fun _ _=>trivial) (fun _ _=>trivial)
    rwa [strs_len] at h1:strK.sl.M wr (fun _=>True) (strs ls) [.slice A4 ls.length c4])
   have d0:=Zz HB.o;clear HO HB HI c5 hd b5 d6;by_cases hmay:MayF ls
   .
    have c_:=Zz (new_calls ls hmay.1 hmay.2.1 hmay.2.2 A4 c4 wr c8.o);have p_:=Zz hmay;have b1:=hmay.1;clear hmay;go_wp2_with fail;refine c_.o.mono ?_;rintro e w8 ⟨⟨gd,rfl,e0,hD⟩,hb⟩;have a4:=Zz (bel_step d0.o hb);have c0:=Zz hD;have z_:=Zz (bytes_calls ls b1 (fun x hx=>(p_.o.2.1 x hx).2) gd w8 hD);obtain ⟨F,hF⟩:∃ F,F = frontB ls:=⟨_,rfl⟩;have c1:=Zz hF;rw [<- hF] at z_;clear hD hb c_ e0 hF;dsimp only;go_wp2_with fail;refine z_.o.mono ?_;rintro e w9 ⟨⟨v9,rfl,b3⟩,hb⟩;have a5:=Zz (bel_step a4.o hb);have g9:Hid (DictAt w9 (fun _=>True) gd ls):=Zz (by
     obtain ⟨A,c,hc,hM⟩:=c0.o;exact ⟨A,c,(hb.cell (p:=⟨gd,0,none⟩) (cell_lt hc)).trans hc,strK.sl.mono (fun _ _ _=>trivial) (Kd.M_below (Kd.M_bound hM) hb)⟩)
    have d3:=Kd.own_sl (ok:=TT) (ok':=fun _=>True) b3 (fun _ _=>trivial) (fun _ _=>trivial);obtain ⟨A9,c9,rfl,_,_⟩:=Kd.own_slice b3;have a9:=Zz (BytesEq.equal_calls F b A9 _ c9 c (fun _=>True) w9 d3 (byteK.sl.mono (fun _ _ _=>trivial) (Kd.M_below HM.o a5.o)));clear d3 b3 hb z_ c0;go_wp2_with fail;refine a9.o.mono ?_;rintro e g8 ⟨rfl,rfl⟩;by_cases hfb:F = b
    .
     have HF:=Zz (readsF_parse b4.o p_.o (by rw [<- c1.o];exact hfb));rw [dT hfb];clear hfb a9;go_wp2;go_ret2;exact ⟨⟨some ls,HF.o,gd,rfl,g9.o⟩,a5.o⟩
    .
     have HF:=Zz (readsF_not b4.o (fun h=>hfb (by rw [c1.o];exact h.2)));rw [dF hfb];clear hfb a9;go_wp2;go_ret2;exact ⟨⟨none,HF.o,rfl⟩,a5.o⟩
   .
    have c_:=Zz (new_bad ls (by omega) (fun x hx=>by have:=b6.o x hx;omega) hmay A4 c4 wr c8.o);have HF:=Zz (readsF_not b4.o (fun h=>hmay h.1));clear hmay;go_wp2_with fail;refine c_.o.mono ?_;rintro e w8 ⟨rfl,hb⟩;have a4:=Zz (bel_step d0.o hb);clear hb c_;dsimp only;go_wp2;go_ret2;exact ⟨⟨none,HF.o,rfl⟩,a4.o⟩
end FrontW
namespace PackW
open Go.RowKit Go.Lib B Rd StoreW Clones PackP
def rowI (b:List UInt8) (n wd i k:Nat):List Nat:=(List.range n).map fun j=>if j < i then numB b (j * wd) wd else if j = i then numB b (i * wd) k else 0
theorem rowI_len (b:List UInt8) (n wd i k:Nat):(rowI b n wd i k).length = n:=by simp [rowI]
theorem rowI_at (b:List UInt8) (n wd i k:Nat) (h:i < n):(rowI b n wd i k)[i]'(by rw [rowI_len];exact h) = numB b (i * wd) k:=by simp [rowI]
theorem rowI_set (b:List UInt8) (n wd i k:Nat) (h:i < n):(rowI b n wd i k).set i (numB b (i * wd) (k + 1)) = rowI b n wd i (k + 1):=by
 refine List.ext_getElem (by simp [rowI]) fun j h1 h2=>?_
 rw [List.getElem_set];by_cases e:i = j
 .
  subst e;rw [if_pos rfl,rowI_at _ _ _ _ _ h]
 .
  rw [if_neg e];have e':¬ j = i:=fun h=>e h.symm
  simp only [rowI,List.getElem_map,List.getElem_range,if_neg e']
theorem rowI_next (b:List UInt8) (n wd i:Nat):rowI b n wd i wd = rowI b n wd (i + 1) 0:=by
 refine List.ext_getElem (by simp [rowI]) fun j h1 h2=>?_
 simp only [rowI,List.getElem_map,List.getElem_range];by_cases h:j < i
 .
  rw [if_pos h,if_pos (by omega)]
 .
  rw [if_neg h];by_cases e:j = i
  .
   subst e;rw [if_pos rfl,if_pos (by omega)]
  .
   rw [if_neg e,if_neg (by omega)]
   split <;> rfl
theorem rowI_zero (b:List UInt8) (n wd:Nat):rowI b n wd 0 0 = List.replicate n 0:=by
 refine List.ext_getElem (by simp [rowI]) fun j h1 h2=>?_
 simp only [rowI,List.getElem_map,List.getElem_range,List.getElem_replicate];rw [if_neg (by omega)]
 split <;> rfl
theorem rowI_end (b:List UInt8) (n wd:Nat):rowI b n wd n 0 = rowB b n wd:=by
 refine List.ext_getElem (by simp [rowI,rowB]) fun j h1 h2=>?_
 simp only [rowI,rowB,List.getElem_map,List.getElem_range];rw [if_pos (by simpa [rowB] using h2)]
theorem made_ints {W:World} {base g n:Nat} (hb:base <= g) (hn:n <= 1000000) (hh:W.heap[g]? = some (.cells (madeCells #[.int .i64 0] n) 3 (0,0))) :
  intK.own 3 W base TT (.slice (some ⟨g,0,none⟩) n n) (natZ (List.replicate n 0)):=by
 have e:natZ (List.replicate n 0) = List.replicate n (0:Int):=by simp [natZ]
 rw [e];refine Kd.own_make (z:=.int .i64 0) (by omega) rfl (fun _ _=>⟨rfl,by omega⟩) ⟨by simp,.inr ⟨g,n,_,rfl,hb,hh,lR _,by unfold maxLen;omega,by simp [madeCells],?_⟩⟩;rw [toList_madeCells_one];simp
theorem bit_and (v:UInt8) (t:Nat):Go.bits .and .u8 ((v.toNat:Int) / 2 ^ t) 1 = ((v.toNat.testBit t).toNat:Int):=by
 have e:(v.toNat:Int) / 2 ^ t = ((v.toNat / 2 ^ t:Nat):Int):=by push_cast;rfl
 have hv:=v.toNat_lt;have hd:v.toNat / 2 ^ t < 256:=Nat.lt_of_le_of_lt (Nat.div_le_self _ _) hv;rw [e,Nat.toNat_testBit];generalize v.toNat / 2 ^ t = a at *;have e2:Go.bits .and .u8 (a:Int) 1 = IntKind.u8.wrap (((BitVec.ofInt 8 (a:Int)).toNat &&& 1:Nat):Int):=by
  simp only [bits,BitVec.toNat_and];rfl
 rw [e2,ofInt_u8 a hd,show a &&& 1 = a % 2 from Nat.and_two_pow_sub_one_eq_mod a 1,IntKind.wrap_u8'];omega
theorem or_num (x z k:Nat) (hx:x < 2 ^ k) (hz:z <= 1) (hk:k < 40):Go.bits .or .i64 (x:Int) ((z * 2 ^ k:Nat):Int) = ((x + z * 2 ^ k:Nat):Int):=by
 have a_:∀ n:Int,0 <= n -> n < 2 ^ 63 -> IntKind.i64.wrap n = n:=fun n h0 h1=>by rw [Zw];omega
 have c_:(2:Nat) ^ k <= 2 ^ 40:=Nat.pow_le_pow_right (by decide) (by omega);have b_:z * 2 ^ k <= 1 * 2 ^ k:=Nat.mul_le_mul_right _ hz;have hp:((2:Int) ^ k) = ((2 ^ k:Nat):Int):=by push_cast;rfl
 rw [bits_join_low .i64 63 (by decide) a_ k (x:Int) ((z * 2 ^ k:Nat):Int) (by omega) (by rw [hp];omega) (by omega) (by omega) (by rw [hp];rw [<- Int.natCast_emod];rw [Nat.mul_mod_left];rfl) (by omega)];omega
def UnpPost (b:List UInt8) (n wd:Nat) (w:World) (e:Ending) (w':World):Prop:=
 (∃ r,ReadsN b n wd r/\match r with
  | none=>e = .returned (.tuple #[.slice none 0 0,.int .i64 2])
  | some l=>∃ A c,e = .returned (.tuple #[.slice A l.length c,.int .i64 0])/\intK.sl.M w' (fun _=>True) (natZ l) [.slice A l.length c])/\Below w.heap.size w w'
theorem unpack_calls (b:List UInt8) (n wd:Nat) (hn:n <= 1000) (hw:wd <= 19) (A:Option Addr) (c:Nat) (w:World) (HL:byteK.sl.M w (fun _=>True) b [.slice A b.length c]) :
  Calls Tryz.prog 68 #[.slice A b.length c,.int .i64 n,.int .i64 wd] w (UnpPost b n wd w):=by
 have HM:=Zz (Kd.M_bound HL);obtain ⟨A',c',hv,h1,h2,h3,a2⟩:=HL;obtain ⟨rfl,rfl⟩:A = A'/\c = c':=by simpa using hv
 have HR:=Zz (Kd.row_mono (ok':=fun k=>k < w.heap.size) (fun k _ hk=>hk) a2);clear a2;obtain ⟨m,hm⟩:∃ m,m = n * wd:=⟨_,rfl⟩;have d0:(n:Int) * (wd:Int) = (m:Int):=by rw [hm];rfl
 have d8:m <= 20000:=by rw [hm];exact Zh (Nat.mul_le_mul hn hw) (by decide)
 have d3:IntKind.i64.wrap (m:Int) = (m:Int):=by rw [Zw];omega
 have a3:=Zz hm;obtain ⟨sz,p_⟩:∃ sz,sz = (m + 7) / 8:=⟨_,rfl⟩;have a9:sz <= 2501:=by omega
 have u_:=Zz p_;have HF:=Zz (fun w=>fits_calls n wd hn (by omega) w);have HS:=Zz (fun w=>size_calls m (by omega) w);rw [<- p_] at HS;clear hm p_;by_cases hlen:b.length = sz
 case neg =>
  have a8:((b.length:Int) != (sz:Int)) = true:=by simp;omega
  have HN:=Zz (readsN_size (b:=b) (n:=n) (wd:=wd) (by rw [<- a3.o,<- u_.o];exact hlen));clear hlen;go_enter func68,ntmps68;go_wp2_with fail;refine (HF.o _).mono ?_;rintro e w2 ⟨rfl,rfl⟩;go_wp2_with fail;refine (HS.o _).mono ?_;rintro e w3 ⟨rfl,rfl⟩;go_wp2;go_ret2;exact ⟨⟨none,HN.o,rfl⟩,bR _ _⟩
 have a8:((b.length:Int) != (sz:Int)) = false:=by simp;omega
 have c3:=run_make_row' (P:=Tryz.prog) 74 3 (.int .i64 0) 8 underlying74 info_int rfl .i64 .i64 n (by omega) (by omega);have w_:Hid (Below w.heap.size w (w.alloc (.cells (madeCells #[.int .i64 0] n) 3))):=Zz (bel_alloc (bR _ _) _);have v_:Hid (intK.own 3 (w.alloc (.cells (madeCells #[.int .i64 0] n) 3)) w.heap.size TT (.slice (some ⟨w.heap.size,0,none⟩) n n) (natZ (rowI b n wd 0 0))):=Zz (by
  rw [rowI_zero];exact made_ints (lR _) (by omega) (Kd.heap_new _ _))
 generalize madeCells #[.int .i64 0] n = C0 at *;have n_:=Zz hlen;have d7:b.length <= 2501:=by omega
 clear hlen;go_enter func68,ntmps68;go_wp2_with fail;refine (HF.o _).mono ?_;rintro e w2 ⟨rfl,rfl⟩;go_wp2_with fail;refine (HS.o _).mono ?_;rintro e w3 ⟨rfl,rfl⟩;go_wp2;go_loopw [29] (fun vi wr=>∃ i:Nat,vi = .int .i64 i/\i <= n/\Hid (intK.own 3 wr w.heap.size TT (.slice (some ⟨w.heap.size,0,none⟩) n n) (natZ (rowI b n wd i 0))/\Below w.heap.size w wr)) (fun vi _=>n - (intOf vi).toNat)
 case atStart=>exact ⟨0,rfl,by omega,Zz ⟨v_.o,w_.o⟩⟩
 case round =>
  obtain ⟨i,rfl,e0,HI⟩:=hrel;clear v_ w_ c3;by_cases hlt:i < n
  .
   have hd:decide (i < n) = true:=dT hlt;have ik:(i:Int) < (n:Int):=by omega
   obtain ⟨fr,f_⟩:∃ fr,fr = i * wd:=⟨_,rfl⟩;have b7:(i:Int) * (wd:Int) = (fr:Int):=by rw [f_];rfl
   have b6:fr + wd <= m:=by
    rw [f_,a3.o];have:=Nat.mul_le_mul_right wd (show i + 1 <= n from hlt);rw [Nat.succ_mul] at this;exact this
   have x_:=Zz f_;have a6:=Zz HI.o.1;have a5:=Zz HI.o.2;clear f_ HI;go_wp2;go_loopw [33] (fun vk wx=>∃ k:Nat,vk = .int .i64 k/\k <= wd/\Hid (intK.own 3 wx w.heap.size TT (.slice (some ⟨w.heap.size,0,none⟩) n n) (natZ (rowI b n wd i k))/\Below w.heap.size w wx)) (fun vk _=>wd - (intOf vk).toNat)
   case atStart=>exact ⟨0,rfl,by omega,Zz ⟨a6.o,a5.o⟩⟩
   case round =>
    obtain ⟨k,rfl,d9,HK⟩:=hrel;clear a6 a5;by_cases hkl:k < wd
    .
     have b2:decide (k < wd) = true:=dT hkl;have l_:(fr + k) / 8 < b.length:=by have:=u_.o;have:=n_.o;omega
     have jz:(((fr + k) / 8:Nat):Int) < (b.length:Int):=by omega
     have d6:(natZ (rowI b n wd i k)).length = n:=by rw [natZ_len,rowI_len]
     obtain ⟨u,g_,hu⟩:=Kd.own_cell (i:=i) rfl HK.o.1 (by omega);obtain ⟨x,hx⟩:∃ x:Nat,x = numB b fr k:=⟨_,rfl⟩;have c8:u = .int .i64 (x:Int):=by
      have e1:(natZ (rowI b n wd i k))[i]'(by omega) = (x:Int):=by
       simp only [natZ,List.getElem_map];rw [rowI_at _ _ _ _ _ hlt,<- x_.o,<- hx]
      rw [e1] at hu;have h1:=hu.1;simp at h1;exact h1
     subst c8;obtain ⟨ba,b1,rfl,a_⟩:=BoxWalk.u8_plain HR.o (by omega);have i_:=(HK.o.2.cell (p:=⟨ba,b1 + (fr + k) / 8,none⟩) (cell_lt (a_ _ l_))).trans (a_ _ l_);obtain ⟨v,hv⟩:∃ v:UInt8,v = b[(fr + k) / 8]:=⟨_,rfl⟩;rw [<- hv] at i_;obtain ⟨z,hz⟩:∃ z,z = (v.toNat.testBit ((fr + k) % 8)).toNat:=⟨_,rfl⟩;have m_:=bit_and v ((fr + k) % 8);rw [<- hz] at m_;have k_:z <= 1:=by rw [hz];cases v.toNat.testBit ((fr + k) % 8) <;> simp
     have c1:x < 2 ^ k:=by rw [hx];exact numB_lt _ _ _
     have t_:=or_num x z k c1 k_ (by omega);obtain ⟨y,hy⟩:∃ y,y = x + z * 2 ^ k:=⟨_,rfl⟩;rw [<- hy] at t_;have HY:Hid (y = numB b fr (k + 1)):=Zz (by
      rw [hy,numB,<- hx,hz];unfold bitB;rw [Zg l_,<- hv];rfl)
     have b3:=fun p:QT.Bel wr=>p.cell g_
     have c6:=fun p:QT.Bel wr=>p.cell i_
     have c_:Hid (∀ w2,Below wr.heap.size wr w2 -> intK.own 3 (w2.setCell ⟨w.heap.size,i,none⟩ (.int .i64 (y:Int))) w.heap.size TT (.slice (some ⟨w.heap.size,0,none⟩) n n) (natZ (rowI b n wd i (k + 1)))/\Below w.heap.size w (w2.setCell ⟨w.heap.size,i,none⟩ (.int .i64 (y:Int)))/\w2.cell? ⟨w.heap.size,i,none⟩ = some (.int .i64 (x:Int))/\w2.frozen? ⟨w.heap.size,i,none⟩ = false):=Zz (fun w2 b_=>by
      have h1:=Kd.own_below HK.o.1 b_;have e2:y <= 1000000000:=by
       have s_:(2:Nat) ^ k <= 2 ^ 19:=Nat.pow_le_pow_right (by decide) (by omega);have b8:z * 2 ^ k <= 1 * 2 ^ k:=Nat.mul_le_mul_right _ k_;omega
      have h2:=Kd.own_set (u:=.int .i64 (y:Int)) rfl h1 (i:=i) (by omega) (x:=(y:Int)) ⟨rfl,by omega⟩;have e:(natZ (rowI b n wd i k)).set i (y:Int) = natZ (rowI b n wd i (k + 1)):=by
       rw [<- rowI_set b n wd i k hlt,<- x_.o,<- HY.o];simp [natZ]
      rw [e] at h2;have b4:=cell_lt g_;exact ⟨h2,bel_set (bel_step HK.o.2 b_) (lR _) _,(b_.cell (p:=⟨w.heap.size,i,none⟩) b4).trans g_,Kd.own_frozen h1 _⟩)
     have a1:∀ t:Nat,t = z * 2 ^ k -> IntKind.i64.wrap ((z:Int) * 2 ^ k) = (t:Int):=fun t ht=>by
      have c9:(z:Int) * 2 ^ k = ((z * 2 ^ k:Nat):Int):=by push_cast;rfl
      have s_:(2:Nat) ^ k <= 2 ^ 19:=Nat.pow_le_pow_right (by decide) (by omega);have b8:z * 2 ^ k <= 1 * 2 ^ k:=Nat.mul_le_mul_right _ k_;rw [c9,<- ht,Zw];omega
     obtain ⟨t,ht⟩:∃ t,t = z * 2 ^ k:=⟨_,rfl⟩;have d4:=a1 t ht;rw [<- ht] at t_;clear a1 ht;have b0:(k:Int) <= 19:=by omega
     clear hu hx hz hy hv a_ HK;go_upto_region 13 with fail
     refine QT.region_bel 18 (by kernel_rfl) (by kernel_rfl) ?_;simp only [List.take_succ_cons,List.take_zero,List.drop_succ_cons,List.drop_zero]
     iterate 18 (go_big_quiet_step (fail))
     refine wpQuiet_nil ?_;intro w2 hw';obtain ⟨⟨_,b_⟩,rfl⟩:=hw';obtain ⟨a4,a7,d5,d2⟩:=c_.o w2 b_;have c0:=Zz a4;have c2:=Zz a7;clear a4 a7 b_ c_ b3 g_ c6 i_;go_wp2;go_roundw
     case rel=>exact ⟨k + 1,by go_num,by omega,Zz ⟨c0.o,c2.o⟩⟩
     case measure=>simp [intOf];omega
    .
     have b2:decide (k < wd) = false:=dF hkl;obtain rfl:k = wd:=by omega
     have c5:Hid (intK.own 3 wr w.heap.size TT (.slice (some ⟨w.heap.size,0,none⟩) n n) (natZ (rowI b n k (i + 1) 0))):=Zz (by rw [<- rowI_next];exact HK.o.1);have c7:=Zz HK.o.2;clear HK;go_wp2;go_roundw
     case rel=>exact ⟨i + 1,by go_num,by omega,Zz ⟨c5.o,c7.o⟩⟩
     case measure=>simp [intOf];omega
  .
   have hd:decide (i < n) = false:=dF hlt;obtain rfl:i = n:=by omega
   have o_:=Zz HI.o.1;have b9:=Zz HI.o.2;rw [rowI_end] at o_;have d_:Hid ((rowB b i wd).length = i):=Zz (rowB_len _ _ _);have d1:Hid (∀ x ∈ rowB b i wd,x <= 1000000/\Lib.bitLen x <= wd):=Zz (fun x hx=>by
    have h:=rowB_lt _ _ _ x hx;have s_:(2:Nat) ^ wd <= 2 ^ 19:=Nat.pow_le_pow_right (by decide) (by omega);exact ⟨by omega,Lib.bitLen_le _ _ (by omega) h⟩)
   have a0:=Zz (Kd.own_sl (ok:=TT) (ok':=fun _=>True) o_.o (fun _ _=>trivial) (fun _ _=>trivial));have e_:=Zz (pack_calls (rowB b i wd) wd (by omega) (by rw [d_.o];omega) d1.o (some ⟨w.heap.size,0,none⟩) i wr (Kd.M_bound (by rw [d_.o];exact a0.o)));rw [d_.o] at e_;obtain ⟨F,hF⟩:∃ F,F = packB (rowB b i wd) wd:=⟨_,rfl⟩;have y_:=Zz hF;rw [<- hF] at e_;clear HI hF o_;go_wp2_with fail;refine e_.o.mono ?_;rintro e w4 ⟨⟨v4,rfl,r_⟩,h_⟩;have j_:=Zz (bel_step b9.o h_);have z_:=Kd.own_sl (ok:=TT) (ok':=fun _=>True) r_ (fun _ _=>trivial) (fun _ _=>trivial);obtain ⟨A4,c4,rfl,_,_⟩:=Kd.own_slice r_;have q_:=Zz (BytesEq.equal_calls F b A4 A c4 c (fun _=>True) w4 z_ (byteK.sl.mono (fun _ _ _=>trivial) (Kd.M_below HM.o j_.o)));have b5:Hid (intK.sl.M w4 (fun _=>True) (natZ (rowB b i wd)) [.slice (some ⟨w.heap.size,0,none⟩) i i]):=Zz (intK.sl.mono (fun _ _ _=>trivial) (Kd.M_below (Kd.M_bound a0.o) h_));clear r_ h_ z_ e_;dsimp only;go_wp2_with fail;refine q_.o.mono ?_;rintro e w5 ⟨rfl,rfl⟩;by_cases hfb:F = b
   .
    have HF:=Zz (readsN_row (b:=b) (n:=i) (wd:=wd) (by rw [<- y_.o];exact hfb));rw [dT hfb];clear hfb q_;go_wp2;go_ret2;exact ⟨⟨some (rowB b i wd),HF.o,some ⟨w.heap.size,0,none⟩,i,(by rw [d_.o];try rfl),(by rw [d_.o];exact b5.o)⟩,j_.o⟩
   .
    have HF:=Zz (readsN_not (b:=b) (n:=i) (wd:=wd) (by rw [<- y_.o];exact hfb));rw [dF hfb];clear hfb q_;go_wp2;go_ret2;exact ⟨⟨none,HF.o,rfl⟩,j_.o⟩
end PackW
namespace DecW
open Go.RowKit Go.Lib B Rd TermPure LinesPure Tri SortP OrdG Env StoreP StoreW FrontP FrontW PackP BoxPure BoxWalk BoxPack
def DPost (b:List UInt8) (w:World) (e:Ending) (w':World):Prop:=
 (∃ r,DecR b r/\match r with
  | none=>e = .returned (.tuple #[.pointer none,.int .i64 2])
  | some T=>∃ g,e = .returned (.tuple #[.pointer (some ⟨g,0,none⟩),.int .i64 0])/\StoreAt w' (fun _=>True) g T)/\Below w.heap.size w w'
theorem dec_calls (b:List UInt8) (hb:b.length <= 80000) (A:Option Addr) (c:Nat) (w:World) (he:Env w) (HL:byteK.sl.M w (fun _=>True) b [.slice A b.length c]) :
  Calls Tryz.prog 35 #[.slice A b.length c] w (DPost b w):=by
 have HM:=Zz (Kd.M_bound HL);have HU:=Zz (BoxUnpack.unpack_calls b _ w HL);have HE:=Zz he;clear HL he;go_enter func35,ntmps35;go_wp2_with fail;refine HU.o.mono ?_;rintro e w1 ⟨e6,r,hr,hm⟩;have s_:=Zz e6;clear HU e6;cases r with
 | none =>
  dsimp only at hm;subst hm;have HF:=Zz (dec_none_box hr);clear hr;dsimp only;go_wp2;go_ret2;exact ⟨⟨none,HF.o,rfl⟩,s_.o⟩
 | some l =>
  obtain ⟨v,rfl,ho⟩:=hm;have e_:=Zz hr;have c8:=Kd.own_sl (ok':=fun _=>True) ho (fun _ _=>trivial) (fun _ _=>trivial);obtain ⟨A4,c4,rfl,_,_⟩:=Kd.own_slice ho;have h4:=Zz c8;clear hr ho c8;dsimp only;by_cases h2:l.length = 2
  case neg =>
   have i7:((l.length:Int) != 2) = true:=by simp;omega
   have HF:=Zz (dec_none_len e_.o h2);clear h2;go_wp2;go_ret2;exact ⟨⟨none,HF.o,rfl⟩,s_.o⟩
  obtain ⟨s1,s2,rfl⟩:∃ s1 s2,l = [s1,s2]:=by
   match l,h2 with
   | [a,b'],_=>exact ⟨a,b',rfl⟩
  obtain ⟨b4,o4,rfl,b7,j_⟩:=SecTwo.sec_at h4.o (by simp);obtain ⟨A1,c1,k1,b5⟩:=j_ 0 (by simp);obtain ⟨A2,c2,k2,a9⟩:=j_ 1 (by simp);simp only [List.getElem_cons_zero,List.getElem_cons_succ,Nat.zero_mul,Nat.add_zero,Nat.one_mul] at k1 k2 b5 a9;simp only [Zc,List.length_nil,Nat.zero_add,Nat.reduceAdd] at *;have i_:=(e_.o [s1,s2]).1 rfl;have HK:=Zz (fun W (hW:Below w1.heap.size w1 W)=>(⟨(hW.cell (p:=⟨b4,o4 + 1,none⟩) b7).trans k1,(hW.cell (p:=⟨b4,o4 + 2 + 1,none⟩) b7).trans k2⟩:W.cell? ⟨b4,o4 + 1,none⟩ = some (.slice A1 s1.2.length c1)/\W.cell? ⟨b4,o4 + 2 + 1,none⟩ = some (.slice A2 s2.2.length c2)));have g5:=Zz b5;have d0:=Zz a9;clear b5 a9 j_ h2;by_cases hsh:s2.2.length < 2
  .
   have d2:decide ((s2.2.length:Int) < 2) = true:=dT (by omega);have HF:=Zz (dec_none_short e_.o hsh);go_wp2;go_ret2;exact ⟨⟨none,HF.o,rfl⟩,s_.o⟩
  have d2:decide ((s2.2.length:Int) < 2) = false:=dF (by omega);have a4:s1.2.length <= 100000:=by
   have h:=i_.1.2.2;simp only [total,Zc,List.length_nil] at h;omega
  have h6:s2.2.length <= 100000:=by
   have h:=i_.1.2.2;simp only [total,Zc,List.length_nil] at h;omega
  have e8:=Zz (FrontW.read_calls s1.2 a4 A1 c1 w1 g5.o);obtain ⟨i1,f7,e2,g1,g2,g3,gr⟩:=id d0.o;obtain ⟨rfl,rfl⟩:A2 = i1/\c2 = f7:=by simpa using e2
  obtain ⟨bx,ox,rfl,c_⟩:=u8_plain gr (by omega);have e5:bx < w1.heap.size:=cell_lt (c_ 0 (by omega));obtain ⟨p0,w_⟩:∃ p0,p0 = s2.2[0].toNat:=⟨_,rfl⟩;obtain ⟨p1,z_⟩:∃ p1,p1 = s2.2[1].toNat:=⟨_,rfl⟩;have l0:p0 < 256:=by rw [w_];exact s2.2[0].toNat_lt
  have l1:p1 < 256:=by rw [z_];exact s2.2[1].toNat_lt
  obtain ⟨a_,l_⟩:∃ a_,a_ = cntB s2.2:=⟨_,rfl⟩;have f9:p0 * 256 + p1 = a_:=by
   rw [l_,w_,z_];unfold cntB;rw [List.getD_eq_getElem?_getD,List.getD_eq_getElem?_getD,Zg (by omega),Zg (by omega)]
   try rfl
  have i4:∀ n:Int,0 <= n -> n < 2 ^ 63 -> IntKind.i64.wrap n = n:=fun n h0 h1=>by rw [Zw];omega
  have i8:IntKind.i64.wrap ((p0:Int) * 256 + (p1:Int)) = (a_:Int):=by rw [Zw];omega
  have j1:IntKind.i64.wrap ((p0:Int) * 256) = (p0:Int) * 256:=by rw [Zw];omega
  have HY:=Zz (fun W (hW:Below w1.heap.size w1 W)=>(⟨(hW.cell (p:=⟨bx,ox + 0,none⟩) e5).trans (c_ 0 (by omega)),(hW.cell (p:=⟨bx,ox + 1,none⟩) e5).trans (c_ 1 (by omega))⟩:W.cell? ⟨bx,ox + 0,none⟩ = some (.int .u8 (s2.2[0].toNat:Int))/\W.cell? ⟨bx,ox + 1,none⟩ = some (.int .u8 (s2.2[1].toNat:Int))));rw [<- w_,<- z_] at HY;have b1:=Zz l_;have y0:(0:Int) < (s2.2.length:Int):=by omega
  have y1:(1:Int) < (s2.2.length:Int):=by omega
  have i9:a_ <= 65535:=by omega
  clear f9 w_ z_ l_ c_ gr i_ i4 hsh e2;go_wp2_with fail;refine e8.o.mono ?_;rintro e w2 ⟨⟨r6,hf,a2⟩,q_⟩;have a7:=Zz (bel_step s_.o q_);have o_:=Zz q_;obtain ⟨z1,z2⟩:=HY.o w2 q_;obtain ⟨q1,q2⟩:=HK.o w2 q_;rw [Nat.add_zero] at z1;clear e8 q_ k1 k2;cases r6 with
  | none =>
   dsimp only at a2;subst a2;have HF:=Zz (dec_none_front e_.o hf);have f6:=Zz (fun q=>bel_drewN a7.o q);clear hf;dsimp only;go_upto_region 6 with fail
   go_quiet (fail);go_wp2;go_ret2;exact ⟨⟨none,HF.o,rfl⟩,f6.o _⟩
  | some L =>
   obtain ⟨g6,rfl,e3⟩:=a2;have v_:=Zz hf;have c7:=Zz e3;clear hf e3;dsimp only;go_upto_region 6 with fail
   go_quiet (fail);have g7:=Zz (bel_drewN a7.o nq);have b6:=Zz (bel_drewN o_.o nq);have d5:Hid (DictAt (w2.drewN nq) (fun _=>True) g6 L):=Zz (by
    obtain ⟨A',c',h1,h2⟩:=c7.o;have p_:=bel_drewN (bR w2.heap.size w2) nq;exact ⟨A',c',(p_.cell (p:=⟨g6,0,none⟩) (cell_lt h1)).trans h1,strK.sl.mono (ok':=fun _=>True) (fun _ _ _=>trivial) (Kd.M_below (Kd.M_bound h2) p_)⟩)
   clear q1 q2 z1 z2 a7 o_ c7;generalize w2.drewN nq = w3 at *;by_cases h100:100 < a_
   .
    have d1:decide ((a_:Int) > 100) = true:=dT (by omega);have f4:decide ((100:Int) < (a_:Int)) = true:=dT (by omega);have HF:=Zz (dec_none_cnt e_.o (by rw [<- b1.o];exact h100));go_wp2;go_ret2;exact ⟨⟨none,HF.o,rfl⟩,g7.o⟩
   have d1:decide ((a_:Int) > 100) = false:=dF (by omega);have f4:decide ((100:Int) < (a_:Int)) = false:=dF (by omega);have j0:a_ <= 100:=by omega
   have f1:=Zz (((v_.o L).1 rfl).1);have g0:L.length <= 300:=f1.o.1;have f8:=Zz (FrontW.dlen_calls L g6 w3.drew _ (by
    obtain ⟨A',c',h1,h2⟩:=d5.o;have p_:=bel_drew (bR w3.heap.size w3);exact (⟨A',c',(p_.cell (p:=⟨g6,0,none⟩) (cell_lt h1)).trans h1,strK.sl.mono (ok':=fun _=>True) (fun _ _ _=>trivial) (Kd.M_below (Kd.M_bound h2) p_)⟩:DictAt w3.drew (fun _=>True) g6 L)))
   obtain ⟨wd,a0⟩:∃ wd,wd = Lib.bitLen L.length:=⟨_,rfl⟩;have b0:wd <= 9:=by rw [a0];exact Lib.bitLen_le _ 9 (by decide) (by omega)
   have d6:=Zz (fun W=>PackW.width_calls L.length (by omega) W);rw [<- a0] at d6;obtain ⟨n3,f2⟩:∃ n3,n3 = 3 * a_:=⟨_,rfl⟩;have e4:(a_:Int) * (3:Int) = (n3:Int):=by omega
   have i6:IntKind.i64.wrap (n3:Int) = (n3:Int):=by rw [Zw];omega
   have g4:n3 <= 300:=by omega
   have a3:(s2.2.drop 2).length = s2.2.length - 2:=by simp
   obtain ⟨x_,-,m_,-,g_⟩:=Kd.cut_run (P:=Tryz.prog) byteK 55 5 underlying55 BoxUnpack.cellsB (.int .u8 0) 1 PackW.info_u8 (some ⟨bx,ox,none⟩) s2.2.length c2 2 s2.2.length (by omega) (lR _) g1 g2 (fun h=>by cases h);have h9:∀ (kl:IntKind) (w:World),(Instr.slice 55 (.slice (some ⟨bx,ox,none⟩) s2.2.length c2) (some (.int kl 2)) none none).run Tryz.prog w = .ok (.slice x_ (s2.2.length - 2) (c2 - 2)) w:=fun kl w=>m_ kl w rfl
   have r_:byteK.sl.M w1 (fun _=>True) (s2.2.drop 2) [.slice x_ (s2.2.drop 2).length (c2 - 2)]:=by
    obtain ⟨_,_,hv,_,_,_,hr⟩:=id d0.o;simp at hv;obtain ⟨rfl,rfl⟩:=hv;have h:=g_ w1 _ s2.2 rfl hr;rw [List.take_length] at h;rw [a3];exact h
   clear m_ g_;have a5:=Zz (fun W (hW:Below w1.heap.size w1 W)=>PackW.unpack_calls (s2.2.drop 2) n3 wd (by omega) (by omega) x_ (c2 - 2) W (byteK.sl.mono (fun _ _ _=>trivial) (Kd.M_below (Kd.M_bound r_) hW)));rw [a3] at a5;have i3:Hid (∀ W,Below w1.heap.size w1 W -> Calls Tryz.prog 68 #[.slice x_ (s2.2.length - 2) (c2 - 2),.int .i64 n3,.int .i64 wd] W fun e w'=>(∃ A' n' c' g,e = .returned (.tuple #[.slice A' n' c',.int .i64 g])/\((g = 2/\ReadsN (s2.2.drop 2) n3 wd none) \/ (g = 0/\∃ l,ReadsN (s2.2.drop 2) n3 wd (some l)/\n' = l.length/\intK.sl.M w' (fun _=>True) (natZ l) [.slice A' l.length c'])))/\Below W.heap.size W w'):=Zz (fun W hW=>(a5.o W hW).mono (by
    rintro e w' ⟨⟨r,hr,hm⟩,hb⟩;cases r with
    | none=>exact ⟨⟨none,0,0,2,hm,.inl ⟨rfl,hr⟩⟩,hb⟩
    | some l =>
     obtain ⟨A',c',he,hM⟩:=hm;exact ⟨⟨A',l.length,c',0,he,.inr ⟨rfl,l,hr,rfl,hM⟩⟩,hb⟩))
   clear a5;have e1:=Zz a0;have u_:=Zz f2;clear a0 f2 a3 r_;have d_:Below w1.heap.size w1 w3.drew:=bel_drew b6.o;have hS:True:=trivial;go_upto_region 9 with fail
   refine HeldZ.region (fun W=>True) 12 13 #[false,false,false,false,false,false,false,false,false,false,false,false,false] (by kernel_rfl) rfl rfl ?_;intro hinv;refine HeldZ.tk 0 hinv hS ?_;clear hinv;intro hinv
   try simp only [Act.put,Zs,HeldZ.sm] at hinv |-
   refine HeldZ.tk 1 hinv hS ?_;clear hinv;intro hinv
   try simp only [Act.put,Zs,HeldZ.sm] at hinv |-
   refine HeldZ.tk 2 hinv hS ?_;clear hinv;intro hinv
   try simp only [Act.put,Zs,HeldZ.sm] at hinv |-
   refine HeldZ.tk 3 hinv hS ?_;clear hinv;intro hinv
   try simp only [Act.put,Zs,HeldZ.sm] at hinv |-
   refine HeldZ.tk 4 hinv hS ?_;clear hinv;intro hinv
   try simp only [Act.put,Zs,HeldZ.sm] at hinv |-
   refine HeldZ.ow 5 hinv ?_;clear hinv;intro hinv K hK;go_simp;refine f8.o.mono ?_;rintro e w4 ⟨rfl,rfl⟩;refine hK _ _ (fun _=>hS) ?_;clear hK K
   try simp only [Act.put,Zs,HeldZ.sm] at hinv |-
   refine HeldZ.ow 6 hinv ?_;clear hinv;intro hinv K hK;go_simp;refine (d6.o _).mono ?_;rintro e w5 ⟨rfl,rfl⟩;refine hK _ _ (fun _=>hS) ?_;clear hK K
   try simp only [Act.put,Zs,HeldZ.sm] at hinv |-
   refine HeldZ.ow 7 hinv ?_;clear hinv;intro hinv K hK;go_simp;refine (i3.o _ d_).mono ?_;rintro e w6 ⟨⟨h7,j4,f3,j2,rfl,b_⟩,hb6⟩;have a8:=Zz hb6;have d_:Below w1.heap.size w1 w6:=bel_step (by assumption) hb6;have e7:=Zz b_;clear b_ hb6;refine hK _ _ (fun _=>hS) ?_;clear hK K
   try simp only [Act.put,Zs,HeldZ.sm] at hinv |-
   refine HeldZ.tk 8 hinv hS ?_;clear hinv;intro hinv
   try simp only [Act.put,Zs,HeldZ.sm] at hinv |-
   refine HeldZ.tk 9 hinv hS ?_;clear hinv;intro hinv
   try simp only [Act.put,Zs,HeldZ.sm] at hinv |-
   refine HeldZ.tk 10 hinv hS ?_;clear hinv;intro hinv
   try simp only [Act.put,Zs,HeldZ.sm] at hinv |-
   refine HeldZ.tk 11 hinv hS ?_;clear hinv;intro hinv
   try simp only [Act.put,Zs,HeldZ.sm] at hinv |-
   refine HeldZ.oneW 12 hinv (by kernel_rfl) rfl (by rfl) ?_;clear hinv;intro _ K hK;go_simp;refine hK _ _ (fun h=>absurd rfl h) ?_;refine HeldZ.done (by kernel_rfl) ?_ _;clear hK K hS;have b3:=Zz (bel_step s_.o d_);have d7:=Zz (bel_step (bel_drew (bR w3.heap.size w3)) a8.o);have h3:Hid (DictAt w6 (fun _=>True) g6 L):=Zz (by
    obtain ⟨A',c',h1,h2⟩:=d5.o;exact ⟨A',c',(d7.o.cell (p:=⟨g6,0,none⟩) (cell_lt h1)).trans h1,strK.sl.mono (ok':=fun _=>True) (fun _ _ _=>trivial) (Kd.M_below (Kd.M_bound h2) d7.o)⟩)
   clear d_;rcases e7.o with ⟨rfl,hn⟩ | ⟨rfl,l,hn,rfl,hMl⟩
   .
    have HF:=Zz (dec_none_nums e_.o v_.o (by rw [<- b1.o,<- u_.o,<- e1.o];exact hn));clear hn;go_wp2;go_ret2;exact ⟨⟨none,HF.o,rfl⟩,b3.o⟩
   obtain ⟨I,rfl,c0⟩:∃ I,l = nums I/\I.length = a_:=⟨threes l,(nums_threes a_ l (by rw [((hn l).1 rfl).1,u_.o])).1.symm,(nums_threes a_ l (by rw [((hn l).1 rfl).1,u_.o])).2⟩;have n_:I.length <= 100:=by omega
   have d8:Hid (ReadsN (s2.2.drop 2) (3 * cntB s2.2) (Lib.bitLen L.length) (some (nums I))):=Zz (by rw [<- b1.o,<- u_.o,<- e1.o];exact hn);have i2:Hid (∀ x ∈ nums I,x <= 1000000):=Zz (fun x hx=>by
    have h:=((hn (nums I)).1 rfl).2.1 x hx;have h2:2 ^ wd <= 2 ^ 9:=Nat.pow_le_pow_right (by decide) b0;omega)
   have d4:=Zz (TripW.trip_calls L I n_ g0 (fun x hx=>by have:=f1.o.2.1 x hx;omega) i2.o g6 h7 f3 w6 (HE.o.below b3.o) h3.o hMl);have j3:=Zz c0;clear hn hMl e7 c0;go_wp2_with fail;refine d4.o.mono ?_;rintro e w7 ⟨b_,c9⟩;have f0:=Zz (bel_step b3.o c9);clear c9 d4;rcases b_ with ⟨v10,hno,rfl⟩ | ⟨T,A13,c13,hMk,hV,rfl,hMT⟩
   .
    have HF:=Zz (dec_none_makes e_.o v_.o d8.o hno);clear hno;dsimp only;go_wp2;go_ret2;exact ⟨⟨none,HF.o,rfl⟩,f0.o⟩
   have f_:T.length <= 100:=by have h:=hMk.1;omega
   have HV:=Zz hV;have f5:Hid (Makes L I T):=Zz hMk;have c6:=Zz (SortW.sort_calls T A13 c13 w7 (Kd.M_bound hMT) (fun x hx=>(Parse.valid_small (hV x hx)).1) hV (by omega));clear hMk hV hMT;dsimp only;go_wp2_with fail;refine c6.o.mono ?_;rintro e w8 ⟨g8,i0,rfl,e9,b8⟩;have g9:=Zz (bel_step f0.o b8);have e0:Hid (Valid (sortT T)):=Zz (ParseOk.sortT_valid HV.o);have c3:(sortT T).length <= 100:=Zh (ParseOk.sortT_len T) f_;have d9:=Zz (Made.made_calls (sortT T) e0.o (sortT_rise HV.o) c3 g8 i0 w8 _ e9);clear e9 b8 c6;go_wp2_with fail;refine d9.o.mono ?_;rintro e w9 ⟨⟨gR,rfl,c5⟩,d3⟩;have h5:=Zz (bel_step g9.o d3);have b9:Hid (StoreAt w9 (fun _=>True) gR (sortT T)):=Zz (c5.mono (fun _ _ _=>trivial));have a6:=Zz (Encode.encode_calls (sortT T) e0.o c3 gR w9 _ b9.o);obtain ⟨X,hX⟩:∃ X,X = encT (sortT T):=⟨_,rfl⟩;have HX:=Zz hX;rw [<- hX] at a6;clear c5 d3 d9 hX;go_wp2_with fail;refine a6.o.mono ?_;rintro e i5 ⟨⟨va,rfl,a1⟩,k_⟩;have t_:=Kd.own_sl (ok':=fun _=>True) a1 (fun _ _=>trivial) (fun _ _=>trivial);obtain ⟨Aa,ca,rfl,_,_⟩:=Kd.own_slice a1;have h_:=Zz (bel_step h5.o k_);have b2:=Zz (b9.o.below k_);have y_:=Zz (BytesEq.equal_calls X b Aa A ca c (fun _=>True) i5 t_ (byteK.sl.mono (ok':=fun _=>True) (fun _ _ _=>trivial) (Kd.M_below HM.o h_.o)));clear a1 k_ t_ a6;by_cases hxb:X = b
   .
    have HF:=Zz (dec_some (b:=b) HV.o f_ (by rw [<- HX.o];exact hxb));rw [dT hxb] at y_;clear hxb;go_wp2_with fail;refine y_.o.mono ?_;rintro e h8 ⟨rfl,rfl⟩;go_wp2;go_ret2;exact ⟨⟨some (sortT T),HF.o,gR,rfl,b2.o⟩,h_.o⟩
   .
    have HF:=Zz (dec_none_eq e_.o v_.o d8.o f5.o (by rw [<- HX.o];exact hxb));rw [dF hxb] at y_;clear hxb;go_wp2_with fail;refine y_.o.mono ?_;rintro e h8 ⟨rfl,rfl⟩;go_wp2;go_ret2;exact ⟨⟨none,HF.o,rfl⟩,h_.o⟩
end DecW
namespace BoxRefUn
open Go.RowKit CrcPure BoxPure B CrcWalk CrcLaws BoxWalk BoxPack BoxRef BoxUnpack
theorem num_cells {h:List UInt8} (h3:4 <= h.length):((num (h.drop 1):Nat):Int) = Go.bits .or .i64 (Go.bits .or .i64 ((h[1].toNat:Int) * 65536) ((h[2].toNat:Int) * 256)) (h[3].toNat:Int):=by
 rw [or_bytes];unfold num;rw [getD_at _ 0 (by simp;omega),getD_at _ 1 (by simp;omega),getD_at _ 2 (by simp;omega)];simp [List.getElem_drop]
theorem refunpack_calls (b:List UInt8) (hb:b.length <= 80000) (v:Value) (w:World) (m:byteK.sl.M w T b [v]) :
  Calls Tryz.prog 73 #[v] w (UnpackPost b w):=by
 obtain ⟨A,c,hv,h1,h2,h3,l_⟩:=m;simp at hv;subst hv;have HR:=Zz (Kd.row_mono (ok':=fun k=>k < w.heap.size) (fun k _ hk=>hk) l_);have HM:=Zz (Kd.u8_sl h1 h2 h3 l_);clear l_;by_cases c9:b.length < 9
 .
  have q1:decide ((b.length:Int) < 9) = true:=dT (by omega);have HN:=Zz (reads_short (b:=b) (.inl (by omega)));clear h2;go_enter func73,ntmps73;go_wp2;go_ret2;exact ⟨bR _ _,none,HN.o,rfl⟩
 .
  have q1:decide ((b.length:Int) < 9) = false:=dF (by omega);obtain ⟨ba,j_,rfl,a_⟩:=u8_plain HR.o (by omega);have d4:=a_ 5 (by omega);have HG:Hid (b.getD 5 0 = b[5]):=Zz (getD_at b 5 (by omega));have a6:=b[5].toNat_lt;clear a_;have i5:(5:Int) < (b.length:Int):=by omega
  generalize hbn:b[5] = bn at *;clear hbn;generalize hnn:bn.toNat = n at *;have wn:IntKind.i64.wrap (n:Int) = (n:Int):=by rw [Zw];omega
  have HC:=Zz h2;clear h2;by_cases c8:8 < n
  .
   have q2:decide (8 < (n:Int)) = true:=dT (by omega);have HN:=Zz (reads_short (b:=b) (.inr (.inr (by rw [HG.o,hnn];exact c8))));go_enter func73,ntmps73;go_wp2;go_ret2;exact ⟨bR _ _,none,HN.o,rfl⟩
  .
   have q2:decide (8 < (n:Int)) = false:=dF (by omega);have ww:IntKind.i64.wrap (7 * (n:Int)) = 7 * (n:Int):=by rw [Zw];omega
   have d1:IntKind.i64.wrap (9 + 7 * (n:Int)) = ((9 + 7 * n:Nat):Int):=by rw [Zw];omega
   by_cases cl:b.length < 9 + 7 * n
   .
    have q3:decide (b.length < 9 + 7 * n) = true:=dT (by omega);have HN:=Zz (reads_short (b:=b) (.inr (.inl (by rw [HG.o,hnn];exact cl))));generalize 9 + 7 * n = t at *;go_enter func73,ntmps73;go_wp2;go_ret2;exact ⟨bR _ _,none,HN.o,rfl⟩
   .
    have q3:decide (b.length < 9 + 7 * n) = false:=dF (by omega);have c_:Hid (parse b = secs n (b.drop 6) (b.drop (9 + 7 * n))):=by
     refine Zz ?_;unfold parse;rw [HG.o,hnn]
    have v_:Hid (secs n (b.drop 6) (b.drop (9 + 7 * n)) = (secs (n - 0) (b.drop (6 + 7 * 0)) (b.drop (9 + 7 * n))).map ([] ++ ·)):=by
     refine Zz ?_;simp
    have c0:9 + 7 * n <= b.length:=by omega
    generalize ht:9 + 7 * n = t0 at *;have HT:=Zz ht;clear ht;have c4:=HR;clear cl hnn a6;go_enter func73,ntmps73;go_wp2_with fail;go_loopw [5,6,7] (fun v5 v6 vi wr=>∃ (k t:Nat) (ls:List Sec),k <= n/\vi = .int .i64 k/\v5 = .int .i64 t/\t <= b.length/\Hid (t = t0 + total ls)/\Hid (secs n (b.drop 6) (b.drop t0) = (secs (n - k) (b.drop (6 + 7 * k)) (b.drop t)).map (ls ++ ·))/\ls.length = k /\
     Hid (secK.own 82 wr w.heap.size (fun k=>w.heap.size <= k) v6 ls)/\Hid (Below w.heap.size w wr)) (fun _ _ vi _=>n - (intOf vi).toNat)
    case atStart=>exact ⟨0,t0,[],by omega,rfl,rfl,c0,Zz (by simp [total]),v_,rfl,Zz (Kd.own_nil _ _ _ _ _),Zz (bR _ _)⟩
    case round =>
     clear v_;obtain ⟨k,t,ls,hk,rfl,rfl,c5,a1,HI,d7,HO,HB⟩:=hrel;by_cases hlt:k < n
     .
      have b5:decide (k < n) = true:=dT hlt;obtain ⟨m,hm⟩:∃ m,n - k = m + 1:=⟨n - k - 1,by omega⟩;rw [hm] at HI;have w7:IntKind.i64.wrap (7 * (k:Int)) = 7 * (k:Int):=by rw [Zw];omega
      have w6:IntKind.i64.wrap (6 + 7 * (k:Int)) = ((6 + 7 * k:Nat):Int):=by rw [Zw];omega
      have h6:6 + 7 * k + 10 <= b.length:=by have:=HT.o;omega
      have wt:IntKind.i64.wrap ((b.length:Int) - (t:Int)) = (b.length:Int) - (t:Int):=by rw [Zw];omega
      obtain ⟨A1,-,f_,-,d_⟩:=Kd.cut_run (P:=Tryz.prog) byteK 55 5 underlying55 cellsB (.int .u8 0) 1 info_u8 (some ⟨ba,j_,none⟩) b.length c (6 + 7 * k) b.length (by omega) (lR _) h1 HC.o h3;have d8:=fun (kl:IntKind) (w:World)=>f_ kl w rfl
      have o_:=Zz (d_ w _ b rfl HR.o);rw [List.take_length] at o_;rw [show b.length - (6 + 7 * k) = (b.drop (6 + 7 * k)).length by simp] at *;clear f_ d_;have b4:Hid (b.drop (6 + 7 * (k + 1)) = (b.drop (6 + 7 * k)).drop 7):=by
       refine Zz ?_;rw [List.drop_drop,show 6 + 7 * (k + 1) = 6 + 7 * k + 7 by omega]
      have c7:10 <= (b.drop (6 + 7 * k)).length:=by simp;omega
      generalize b.drop (6 + 7 * k) = hs at *;generalize 6 + 7 * k = q at *;generalize c - q = cq at *;have wq:(0:Int) <= (q:Int):=by omega
      obtain ⟨d5,d2,he,_,_,_,gr⟩:=o_.o;simp at he;obtain ⟨rfl,rfl⟩:=he;obtain ⟨gh,oh,rfl,a_⟩:=u8_plain gr (by omega);have hm:=fun i (hi:i < hs.length)=>cell_same (a_ i hi) (HB.o.block _ (cell_lt (a_ i hi)))
      have q_:=hm 0 (by omega);have a9:=hm 1 (by omega);have b8:=hm 2 (by omega);have c2:=hm 3 (by omega);rw [Nat.add_zero] at q_;have HK:Hid (∀ W,Below w.heap.size w W -> W.cell? ⟨gh,oh,none⟩ = some (.int .u8 (hs[0].toNat:Int))):=
       Zz (fun W h=>by have:=cell_same (a_ 0 (by omega)) (h.block _ (cell_lt (a_ 0 (by omega))));rwa [Nat.add_zero] at this)
      have z_:=Zz (getD_at hs 0 (by omega));have d0:=(num_cells (h:=hs) (by omega)).symm;have b6:=num_lt (hs.drop 1);have s_:=Zz (secs_step m hs (b.drop t));have y_:=Zz (secs_stop m hs (b.drop t));clear hm a_ gr o_;generalize num (hs.drop 1) = sz at *;have b1:=hs[1].toNat_lt;have b2:=hs[2].toNat_lt;have b3:=hs[3].toNat_lt;have b0:=hs[0].toNat_lt;generalize hs[0] = x0 at *;generalize hs[1] = x1 at *;generalize hs[2] = x2 at *;generalize hs[3] = x3 at *;have v1:IntKind.i64.wrap (x1.toNat:Int) = (x1.toNat:Int):=by rw [Zw];omega
      have v2:IntKind.i64.wrap (x2.toNat:Int) = (x2.toNat:Int):=by rw [Zw];omega
      have v3:IntKind.i64.wrap (x3.toNat:Int) = (x3.toNat:Int):=by rw [Zw];omega
      have v4:IntKind.i64.wrap ((x1.toNat:Int) * 65536) = (x1.toNat:Int) * 65536:=by rw [Zw];omega
      have v5:IntKind.i64.wrap ((x2.toNat:Int) * 256) = (x2.toNat:Int) * 256:=by rw [Zw];omega
      have j1:(1:Int) < (hs.length:Int):=by omega
      have j2:(2:Int) < (hs.length:Int):=by omega
      have j3:(3:Int) < (hs.length:Int):=by omega
      go_wp2_with fail;go_quiet (fail);by_cases hsz:b.length - t < sz
      .
       have hd:decide ((b.length:Int) - (t:Int) < (sz:Int)) = true:=dT (by omega);have HN:Hid (Reads b none):=Zz (reads_of_parse_none (by rw [c_.o,HI.o,y_.o (by simp;omega)];rfl));go_wp2_with fail;go_ret2;exact ⟨bel_drewN HB.o _,none,HN.o,rfl⟩
      .
       have hd:decide ((b.length:Int) - (t:Int) < (sz:Int)) = false:=dF (by omega);clear j1 j2 j3 v1 v2 v3 v4 v5 b1 b2 b3 a9 b8 c2 q_;have n_:=Zz (s_.o (by simp;omega));rw [z_.o] at n_;obtain ⟨A2,f_,-,-,d_⟩:=Kd.cut_run (P:=Tryz.prog) byteK 55 5 underlying55 cellsB (.int .u8 0) 1 info_u8 (some ⟨ba,j_,none⟩) b.length c t (t + sz) (by omega) (by omega) h1 HC.o h3;have HQ:=Zz (d_ w _ b rfl HR.o);have hq:∀ (kl kh:IntKind) (w:World),(Instr.slice 55 (.slice (some ⟨ba,j_,none⟩) b.length c) (some (.int kl t)) (some (.int kh (t + sz))) none).run Tryz.prog w = .ok (.slice A2 sz (c - t)) w:=fun kl kh w=>by
        have:=f_ kl kh w
        rwa [Nat.add_sub_cancel_left,Int.natCast_add] at this
       have a0:(b.take (t + sz)).drop t = (b.drop t).take sz:=by rw [List.drop_take,Nat.add_sub_cancel_left]
       rw [a0,Nat.add_sub_cancel_left] at HQ;have a7:((b.drop t).take sz).length = sz:=by simp;omega
       have a2:Hid (secs n (b.drop 6) (b.drop t0) = (secs m (hs.drop 7) (b.drop (t + sz))).map ((ls ++ [((x0.toNat:Int),(b.drop t).take sz)]) ++ ·)):=by
        refine Zz ?_;rw [HI.o,n_.o,Option.map_map,List.drop_drop];congr 1;funext q;simp
       rw [<- b4.o] at a2;clear f_ d_ s_ y_ n_ HI z_ a0;generalize (b.drop t).take sz = body at *;subst a7;have c6:IntKind.i64.wrap ((t:Int) + (body.length:Int)) = (t:Int) + (body.length:Int):=by rw [Zw];omega
       have m_:Hid (t + body.length = t0 + total (ls ++ [((x0.toNat:Int),body)])):=Zz (by rw [total_append,a1.o];simp [total];omega);have i_:t + body.length <= b.length:=by omega
       have wx:IntKind.i64.wrap (x0.toNat:Int) = (x0.toNat:Int):=by rw [Zw];omega
       have d6:0 < hs.length:=by omega
       have d3:(0:Int) <= (t:Int):=by omega
       generalize c - t = ct at *;go_wp2_with fail;generalize hwy:World.drewN _ _ = wy at *;have h_:Hid (secK.own 82 wy w.heap.size (fun k=>w.heap.size <= k) u6 ls):=Zz (by subst hwy;exact Kd.own_move (w:=wr) (fun _ _ _=>rfl) HO.o);have p_:Hid (Below w.heap.size w wy):=Zz (by subst hwy;exact bel_drewN HB.o _);clear hwy HO HB;go_cut [6] (fun v6 wx=>Hid (secK.own 82 wx w.heap.size (fun k=>w.heap.size <= k) v6 (ls ++ [((x0.toNat:Int),body)]))/\Hid (Below w.heap.size w wx))
       case first =>
        have hB:=p_.o;have hY:=bR wy.heap.size wy;have hQ:=byteK.sl.M_old HQ.o hB;go_region_held3 (fun w'=>w'.cell? ⟨gh,oh,none⟩ = some (.int .u8 (x0.toNat:Int)))
         (exact HK.o _ (by (repeat (first | assumption | refine bel_alloc ?_ _ | refine bel_drew ?_))))
         (first
          | (refine Kd.own_app_step byteK (w0:=wy) wy.heap.size (by rfl) (.tmp 70) (.tmp 76) 55 5 (.int .u8 0) 1 (by rfl) underlying55 info_u8 rfl (by decide) (.slice (some ⟨wy.heap.size,0,none⟩) 0 0) [] body A2 ct T (by rfl) (by rfl) ?ho (.inr ⟨?hr,any_u8⟩) ?hb ?hs ?hl ?_;go_loud (case hl=>simp;omega);go_loud (case ho=>repeat (first | exact Kd.own_block (cells:=[]) (xs:=[]) (lR _) (Kd.heap_new _ _) rfl (by simp) (fun i x h=>by simp at h) | refine Kd.own_drew ?_ | refine Kd.own_alloc ?_ _));go_loud (case hr=>exact byteK.sl.mono (fun _ _ _=>trivial) (byteK.sl.M_old HQ.o (by (repeat (first | assumption | refine bel_alloc ?_ _ | refine bel_drew ?_)))));go_loud (case hb=>repeat (first | assumption | refine bel_alloc ?_ _ | refine bel_drew ?_));go_loud (case hs=>simp);intro v1 w1 ho1 e_ hg1 hv1;go_loud (rw [Zf] at ho1);obtain ⟨A9,c9,rfl,_,_⟩:=Kd.own_slice ho1;have a5:=Zz ho1;have b7:Below w.heap.size w w1:=bel_step hB e_;have c1:=Zz (Kd.own_below h_.o e_);clear ho1 hg1 hv1)
          | (refine Kd.own_app_step secK (w0:=w) w.heap.size (by rfl) (.tmp 65) (.tmp 79) 84 82 (.agg #[.int .i64 0,.slice none 0 0]) 32 (by rfl) underlying84 info_sec rfl (by decide) u6 ls [((x0.toNat:Int),body)] (some ⟨w1.heap.size,0,none⟩) 1 (fun k=>w.heap.size <= k) (by rfl) (by rfl) ?ho (.inl ?hr) ?hb ?hs ?hl ?_;go_loud (case hl=>simp;omega);go_loud (case ho=>repeat (first | exact c1.o | refine Kd.own_alloc ?_ _ | refine Kd.own_drew ?_));go_loud (case hr=>exact sec_row a5.o hB.size (fun k hk=>(Kd.own_lt h_.o k hk).2) e_.size ⟨by omega,by omega⟩ (by (repeat (first | exact bR _ _ | refine bel_alloc ?_ _ | refine bel_drew ?_))) (by repeat (first | exact Kd.bi_new (by simp) | refine Kd.bi_old ?_ | refine Kd.bi_drew ?_)));go_loud (case hb=>repeat (first | assumption | refine bel_alloc ?_ _ | refine bel_drew ?_));go_loud (case hs=>have:=b7.size;simp;omega);intro v4 w4 ho4 hb4 hg4 hv4;have b9:=Zz ho4;clear ho4 hg4 hv4)
          | fail)
        go_wp2_with fail;go_meet;exact ⟨b9,Zz hb4⟩
       case rest =>
        obtain ⟨HO,HB⟩:=hcut;clear h_ p_;go_wp2_with fail;go_roundw
        case rel=>exact ⟨k + 1,t + body.length,ls ++ [((x0.toNat:Int),body)],by omega,by go_num,by go_num,i_,m_,Zz (by rw [a2.o,show n - (k + 1) = m by omega]),by simp;omega,HO,HB⟩
        case measure=>simp [intOf];omega
     .
      obtain rfl:k = n:=by omega
      have b5:decide (k < k) = false:=by simp
      have a3:Hid (parse b = some ls):=Zz (by rw [c_.o,HI.o,Nat.sub_self];simp [secs]);have w_:=Zz (reads_of_parse a3.o);have x_:Hid (secK.sl.M wr T ls [u6]):=Zz (Kd.own_sl HO.o (fun _ _=>trivial) (fun _ _=>trivial));have t_:=Zz (refpack_calls ls (by have:=a1.o;omega) (by omega) u6 wr x_.o);go_wp2_with fail;refine t_.o.mono ?_;clear t_ x_;rintro e w1 ⟨e_,a4⟩;have g_:=Zz (bel_step HB.o e_);have a8:=Zz (Kd.own_below HO.o e_);rcases a4 with ⟨hMay,vp,rfl,hop⟩ | ⟨hMay,rfl⟩
      .
       have c3:=Zz hop;clear hop e_;have k_:=Zz hMay;clear hMay;have b_:Hid (Reads b (if file ls = b then some ls else none)):=Zz (by
        have:=w_.o;by_cases hf:file ls = b
        .
         rw [if_pos ⟨k_.o,hf⟩] at this;rw [if_pos hf];exact this
        .
         rw [if_neg (fun h=>hf h.2)] at this;rw [if_neg hf];exact this)
       generalize file ls = fl at *;obtain ⟨Ap,cp,u_,_,_,_,r_⟩:=Kd.own_sl (ok':=T) c3.o (fun _ _=>trivial) (fun _ _=>trivial);simp at u_;subst u_;have k1:=conv_string (P:=Tryz.prog) (w:=w1) (c:=cp) underlying55 underlying5 underlying9 r_;have k2:=conv_string (P:=Tryz.prog) (w:=w1) (c:=c) underlying55 underlying5 underlying9 (Kd.row_old HR.o g_.o);have he:=mkS_beq fl b;clear r_;by_cases hf:fl = b
       .
        have hd:(fl == b) = true:=by simp [hf]
        rw [if_pos hf] at b_;rw [hd] at he;generalize mkS fl = s1 at *;generalize mkS b = s2 at *;clear hf hd;go_wp2_with fail;go_ret2;exact ⟨g_.o,some ls,b_.o,_,rfl,a8.o⟩
       .
        have hd:(fl == b) = false:=by simp [hf]
        rw [if_neg hf] at b_;rw [hd] at he;generalize mkS fl = s1 at *;generalize mkS b = s2 at *;clear hf hd;go_wp2_with fail;go_ret2;exact ⟨g_.o,none,b_.o,rfl⟩
      .
       have b_:Hid (Reads b none):=Zz (by
        have:=w_.o
        rwa [if_neg (fun h=>hMay h.1)] at this)
       go_wp2_with fail;go_ret2;exact ⟨g_.o,none,b_.o,rfl⟩
end BoxRefUn
namespace Ref6
open Go.RowKit Go.Lib B Rd StoreW Clones FrontP FrontW
theorem good_may {l:List (List UInt8)} (h:MayF l):∀ i,GoodF l i:=fun i hi=>by
 obtain ⟨h1,h2⟩:=h.2.1 _ (Zm hi)
 refine ⟨h1,h2,fun h0=>?_⟩
 exact List.pairwise_iff_getElem.1 h.2.2 (i - 1) i (by omega) hi (by omega)
theorem may6_calls (l:List (List UInt8)) (hl:l.length <= 140737488355328) (hs:∀ x ∈ l,x.length <= 140737488355328) (A:Option Addr) (c:Nat) (w:World) (HL:strK.sl.M w (fun _=>True) (strs l) [.slice A l.length c]) :
  Calls Tryz.prog 38 #[.slice A l.length c] w fun e w'=>(∃ r:Bool,e = .returned (.bool r)/\(r = true ↔ MayF l))/\Below w.heap.size w w':=by
 have g_:=Zz (fun hp=>str_cells HL hp);have HS:=Zz hs;have HM:=Zz (good_may (l:=l));have o_:=Zz (may_good (l:=l));clear hs HL;go_enter func38,ntmps38;go_wp2;go_loopw [3] (fun vk wr=>∃ k:Nat,vk = .int .i64 k/\k <= l.length/\Hid ((∀ i,i < k -> GoodF l i)/\Below w.heap.size w wr)) (fun vk _=>l.length - (intOf vk).toNat)
 case atStart=>exact ⟨0,rfl,by omega,Zz ⟨fun i h=>by omega,bR _ _⟩⟩
 case round =>
  obtain ⟨k,rfl,hk,HI⟩:=hrel;by_cases hlt:k < l.length
  .
   have p_:decide (k < l.length) = true:=dT hlt;have ik:(k:Int) < (l.length:Int):=by omega
   obtain ⟨b,j_,rfl,_,i_,a_⟩:=g_.o (by omega);have k_:=(HI.o.2.cell (p:=⟨b,j_ + k,none⟩) i_).trans (a_ k hlt);obtain ⟨x,hx⟩:∃ x,x = l[k]:=⟨_,rfl⟩;rw [<- hx] at k_;have h_:=HS.o x (by rw [hx];exact Zm hlt);have zx:=mkS_size x;have tx:=mkS_toList x;have HX:=Zz hx;have f_:=Zz (fun q=>bel_drewN HI.o.2 q);have b_:=Zz (fun (h:¬ GoodF l k) (hm:MayF l)=>h (HM.o hm k));clear hx;by_cases hem:x.length < 1
   .
    have e1:decide ((x.length:Int) < 1) = true:=dT (by omega);have HF:Hid (¬ MayF l):=Zz (b_.o (fun h=>by have:=(h hlt).1;rw [<- HX.o] at this;exact this (Zn (by omega))));clear a_;go_upto_region 4 with fail
    go_quiet (fail);go_wp2;go_ret;exact ⟨⟨false,rfl,by simp [HF.o]⟩,f_.o _⟩
   have e1:decide ((x.length:Int) < 1) = false:=dF (by omega);by_cases hbig:250 < x.length
   .
    have e2:decide ((250:Int) < (x.length:Int)) = true:=dT (by omega);have HF:Hid (¬ MayF l):=Zz (b_.o (fun h=>by have:=(h hlt).2.1;rw [<- HX.o] at this;omega));clear a_;go_upto_region 4 with fail
    go_quiet (fail);go_wp2;go_ret;exact ⟨⟨false,rfl,by simp [HF.o]⟩,f_.o _⟩
   have e2:decide ((250:Int) < (x.length:Int)) = false:=dF (by omega);by_cases h0:k = 0
   .
    subst h0;have d_:Hid (∀ i,i < 1 -> GoodF l i):=Zz (fun i hi h=>by
     have:i = 0:=by omega
     subst this;rw [<- HX.o];exact ⟨fun e=>by rw [e] at hem;simp at hem,by omega,fun h'=>absurd h' (Nat.lt_irrefl 0)⟩)
    clear a_;simp only [Nat.add_zero] at k_;go_upto_region 4 with fail
    go_quiet (fail);go_wp2;go_roundw
    case rel=>exact ⟨1,by go_num,by omega,Zz ⟨d_.o,f_.o _⟩⟩
    case measure=>simp [intOf];omega
   .
    have s_:0 < k:=by omega
    have n_:decide (0 < k) = true:=dT s_;have t_:decide ((0:Int) < (k:Int)) = true:=dT (by omega);obtain ⟨j,hj⟩:∃ j,j = k - 1:=⟨_,rfl⟩;have u_:IntKind.i64.wrap ((k:Int) - 1) = (j:Int):=by rw [Zw];omega
    have ij:(j:Int) < (l.length:Int):=by omega
    have m_:j < l.length:=by omega
    have r_:=(HI.o.2.cell (p:=⟨b,j_ + j,none⟩) i_).trans (a_ j m_);obtain ⟨y,hy⟩:∃ y,y = l[j]:=⟨_,rfl⟩;rw [<- hy] at r_;have ty:=mkS_toList y;have HY:=Zz hy;have HJ:=Zz hj;clear hy hj a_;by_cases hyx:y < x
    .
     have e_:Op.bytesLess (mkS y).toList (mkS x).toList = true:=by rw [Cmp.less_eq];exact dT hyx
     have c_:Op.bytesLess y x = true:=by rw [Go.Proofs.bytesLess_eq];exact dT hyx
     have d_:Hid (∀ i,i < k + 1 -> GoodF l i):=Zz (fun i hi=>by
      by_cases hik:i < k
      .
       exact HI.o.1 i hik
      .
       have:i = k:=by omega
       subst this;intro h;refine ⟨by rw [<- HX.o];intro e;rw [e] at hem;simp at hem,by rw [<- HX.o];omega,fun h'=>?_⟩;have e:l[i - 1] = l[j]:=by congr 1;exact HJ.o.symm
       rw [<- HX.o,e,<- HY.o];exact hyx)
     clear hyx h_;go_upto_region 4 with fail
     go_quiet (fail);go_wp2;go_roundw
     case rel=>exact ⟨k + 1,by go_num,by omega,Zz ⟨d_.o,f_.o _⟩⟩
     case measure=>simp [intOf];omega
    .
     have e_:Op.bytesLess (mkS y).toList (mkS x).toList = false:=by rw [Cmp.less_eq];exact dF hyx
     have c_:Op.bytesLess y x = false:=by rw [Go.Proofs.bytesLess_eq];exact dF hyx
     have HF:Hid (¬ MayF l):=Zz (b_.o (fun h=>by
      have h1:=(h hlt).2.2 (by omega);have e:l[k - 1] = l[j]:=by congr 1;exact HJ.o.symm
      rw [<- HX.o,e,<- HY.o] at h1;exact hyx h1))
     clear hyx h_;go_upto_region 4 with fail
     go_quiet (fail);go_wp2;go_ret;exact ⟨⟨false,rfl,by simp [HF.o]⟩,f_.o _⟩
  .
   have p_:decide (k < l.length) = false:=dF hlt;have l_:=Zz HI.o.2;have d_:=Zz (fun (h3:l.length <= 300)=>o_.o h3 (fun i hi=>HI.o.1 i (by omega)));have q_:=Zz (fun (h:MayF l)=>h.1);clear HI;by_cases h3:l.length <= 300
   .
    have e3:decide ((l.length:Int) <= 300) = true:=dT (by omega);go_wp2;go_ret;exact ⟨⟨true,rfl,by simp [d_.o h3]⟩,l_.o⟩
   .
    have e3:decide ((l.length:Int) <= 300) = false:=dF (by omega);go_wp2;go_ret;exact ⟨⟨false,rfl,⟨fun h=>(by cases h),fun h=>absurd (q_.o h) h3⟩⟩,l_.o⟩
end Ref6
namespace Ref6
open Go.RowKit Go.Lib B Rd StoreW Clones FrontP FrontW BoxWalk BoxUnpack
def RdPost6 (b:List UInt8) (w:World) (e:Ending) (w':World):Prop:=
 (∃ r,ReadsF b r/\match r with
  | none=>e = .returned (.tuple #[.slice none 0 0,.int .i64 2])
  | some L=>∃ A c,e = .returned (.tuple #[.slice A L.length c,.int .i64 0])/\strK.sl.M w' (fun _=>True) (strs L) [.slice A L.length c])/\Below w.heap.size w w'
theorem read6_calls (b:List UInt8) (hb:b.length <= 100000) (A:Option Addr) (c:Nat) (w:World) (HL:byteK.sl.M w (fun _=>True) b [.slice A b.length c]) :
  Calls Tryz.prog 74 #[.slice A b.length c] w (RdPost6 b w):=by
 have HM:=Zz (Kd.M_bound HL);obtain ⟨A',c',hv,h1,h2,h3,d6⟩:=HL;obtain ⟨rfl,rfl⟩:A = A'/\c = c':=by simpa using hv
 have HR:=Zz (Kd.row_mono (ok':=fun k=>k < w.heap.size) (fun k _ hk=>hk) d6);clear d6;by_cases c2:b.length < 2
 .
  have q1:decide ((b.length:Int) < 2) = true:=dT (by omega);have HN:=Zz (readsF_fail (b:=b) (by unfold parseF;rw [if_pos c2]));go_enter func74,ntmps74;go_wp2;go_ret2;exact ⟨⟨none,HN.o,rfl⟩,bR _ _⟩
 have q1:decide ((b.length:Int) < 2) = false:=dF (by omega);obtain ⟨ba,n_,rfl,b_⟩:=u8_plain HR.o (by omega);have b8:=b_ 0 (by omega);have g3:=b_ 1 (by omega);rw [Nat.add_zero] at b8;obtain ⟨n,hn⟩:∃ n,n = countF b:=⟨_,rfl⟩;have d_:Hid (parseF b = readN n [] (b.drop 2)):=Zz (by unfold parseF;rw [if_neg c2,hn]);have l0:=b[0].toNat_lt;have l1:=b[1].toNat_lt;have a0:b[0].toNat * 256 + b[1].toNat = n:=by
  rw [hn];unfold countF;rw [List.getD_eq_getElem?_getD,List.getD_eq_getElem?_getD,Zg (by omega),Zg (by omega)];simp
 obtain ⟨p0,d8⟩:∃ p0,p0 = b[0].toNat:=⟨_,rfl⟩;obtain ⟨p1,e9⟩:∃ p1,p1 = b[1].toNat:=⟨_,rfl⟩;rw [<- d8] at b8 a0 l0;rw [<- e9] at g3 a0 l1;have i0:(0:Int) < (b.length:Int):=by omega
 have i1:(1:Int) < (b.length:Int):=by omega
 have i5:Go.bits .or .i64 ((p0:Int) * 256) (p1:Int) = (n:Int):=by
  have h8:∀ n:Int,0 <= n -> n < 2 ^ 63 -> IntKind.i64.wrap n = n:=fun n h0 h1=>by rw [Zw];omega
  rw [bits_join .i64 63 (by decide) h8 8 ((p0:Int) * 256) (p1:Int) (by omega) (by omega) (by omega) (by omega) (by omega) (by omega)];omega
 have i7:IntKind.i64.wrap ((p0:Int) * 256) = (p0:Int) * 256:=by rw [Zw];omega
 have i9:n <= 65535:=by omega
 have a_:=Zz b_;clear b_ hn d8 e9 a0;go_enter func74,ntmps74;go_upto_region 3 with fail
 go_quiet (fail);obtain ⟨R0,a2⟩:∃ R0,R0 = b.drop 2:=⟨_,rfl⟩;rw [<- a2] at d_;have f8:=Zz a2;clear a2;have d7:Hid (readN n [] R0 = (readN (n - 0) [] (b.drop 2)).map (([]:List (List UInt8)) ++ ·)):=Zz (by
  rw [<- f8.o];cases h:readN n [] R0 <;> simp [h])
 go_wp2;go_loopw [5,6,7,8] (fun v5 v6 v7 vk wr=>∃ (k d:Nat) (last:List UInt8) (ls:List (List UInt8)),vk = .int .i64 k/\k <= n/\v6 = .int .i64 d/\d <= b.length/\v7 = .string (mkS last)/\last.length <= 510/\2 * k <= d/\Hid (ls.length = k)/\Hid (readN n [] R0 = (readN (n - k) last (b.drop d)).map (ls ++ ·))/\Hid (∀ x ∈ ls,x.length <= 510)/\Hid (strK.own 9 wr w.heap.size TT v5 (strs ls))/\Hid (Below w.heap.size w wr)) (fun _ _ _ vk _=>n - (intOf vk).toNat)
 case atStart=>exact ⟨0,2,[],[],rfl,by omega,rfl,by omega,rfl,by simp,by omega,Zz rfl,d7,Zz (fun x hx=>by cases hx),Zz (Kd.own_nil _ _ _ _ _),Zz (by repeat (first | exact bR _ _ | refine bel_drewN ?_ _ | refine bel_drew ?_))⟩
 case round =>
  obtain ⟨k,d,last,ls,rfl,hk,rfl,j3,rfl,c7,f6,i_,HI,b6,HO,HB⟩:=hrel;clear d7;by_cases hlt:k < n
  .
   have hd:decide ((k:Int) < (n:Int)) = true:=dT (by omega);have f2:decide (k < n) = true:=dT hlt;obtain ⟨m,hm⟩:∃ m,n - k = m + 1:=⟨n - k - 1,by omega⟩;have b9:n - (k + 1) = m:=by omega
   rw [hm] at HI;have i2:=Zz b9;clear hm b9;have zl:=mkS_size last;obtain ⟨r,hr⟩:∃ r,r = b.length - d:=⟨_,rfl⟩;have m_:(b.drop d).length = r:=by rw [hr];simp
   have e0:IntKind.i64.wrap ((b.length:Int) - (d:Int)) = (r:Int):=by rw [Zw];omega
   have i6:r + d <= b.length:=by omega
   have j4:b.length <= r + d:=by omega
   clear hr;by_cases hsh:r < 2
   .
    have hN:=readN_short (n:=m) (last:=last) (rs:=b.drop d) (by omega);have HF:=Zz (readsF_fail (b:=b) (by rw [d_.o,HI.o,hN];rfl));have e1:decide ((r:Int) < 2) = true:=dT (by omega);have i3:decide ((b.length:Int) - (d:Int) < 2) = true:=dT (by omega);clear hN m_;go_wp2;go_ret2;exact ⟨⟨none,HF.o,rfl⟩,HB.o⟩
   have e1:decide ((r:Int) < 2) = false:=dF (by omega);have i3:decide ((b.length:Int) - (d:Int) < 2) = false:=dF (by omega);obtain ⟨r0,r1,rest,l_⟩:∃ r0 r1 rest,b.drop d = r0 :: r1 :: rest:=by
    match hh:b.drop d,m_ with
    | [],h=>exact absurd h (by simp;omega)
    | [a],h=>exact absurd h (by simp;omega)
    | a :: b' :: l,_=>exact ⟨a,b',l,rfl⟩
   obtain ⟨d1,g4⟩:∃ d1,d1 = d + 1:=⟨_,rfl⟩;have g0:b[d]'(by omega) = r0:=by
    have h:=List.getElem_drop (xs:=b) (i:=d) (j:=0) (h:=by rw [m_];omega);simp only [l_,List.getElem_cons_zero,Nat.add_zero] at h;exact h.symm
   have g1:b[d1]'(by omega) = r1:=by
    have h:=List.getElem_drop (xs:=b) (i:=d) (j:=1) (h:=by rw [m_];omega);simp only [l_,List.getElem_cons_succ,List.getElem_cons_zero] at h;rw [h];congr 1
   have x0:=(HB.o.cell (p:=⟨ba,n_ + d,none⟩) (cell_lt (a_.o d (by omega)))).trans (a_.o d (by omega));have x1:=(HB.o.cell (p:=⟨ba,n_ + d1,none⟩) (cell_lt (a_.o d1 (by omega)))).trans (a_.o d1 (by omega));have b2:=Zz (fun W (hb:Below w.heap.size w W)=>(hb.cell (p:=⟨ba,n_ + d1,none⟩) (cell_lt (a_.o d1 (by omega)))).trans (a_.o d1 (by omega)));rw [g0] at x0;rw [g1] at x1 b2;have a9:rest.length + 2 = r:=by rw [<- m_,l_];rfl
   have t0:=r0.toNat_lt;have t1:=r1.toNat_lt;obtain ⟨p,hp⟩:∃ p,p = r0.toNat:=⟨_,rfl⟩;obtain ⟨q,hq⟩:∃ q,q = r1.toNat:=⟨_,rfl⟩;have w_:=Zz (readN_no (n:=m) (last:=last) (r0:=r0) (r1:=r1) (rest:=rest));have h_:=Zz (readN_two (n:=m) (last:=last) (r0:=r0) (r1:=r1) (rest:=rest));rw [<- hp,<- hq] at w_ h_;rw [<- hp] at x0 t0;rw [<- hq] at x1 t1 b2;rw [l_] at HI;obtain ⟨ml,a7⟩:∃ ml,ml = rest.length:=⟨_,rfl⟩;rw [<- a7] at w_ h_;have a4:=Zz l_;have g2:=Zz a7;have j2:ml + 2 <= r:=by omega
   have j8:r <= ml + 2:=by omega
   obtain ⟨d2,p_⟩:∃ d2,d2 = d + 2:=⟨_,rfl⟩;obtain ⟨d3,o_⟩:∃ d3,d3 = d + 2 + q:=⟨_,rfl⟩;have w1:IntKind.i64.wrap ((d:Int) + 1) = (d1:Int):=by rw [Zw];omega
   have w2:IntKind.i64.wrap ((d:Int) + 2) = (d2:Int):=by rw [Zw];omega
   have w3:IntKind.i64.wrap ((d2:Int) + (q:Int)) = (d3:Int):=by rw [Zw];omega
   have w4:IntKind.i64.wrap ((r:Int) - 2) = (ml:Int):=by rw [Zw];omega
   have j0:(d:Int) < (b.length:Int):=by omega
   have j1:(d1:Int) < (b.length:Int):=by omega
   have j_:=Zz p_;have g_:=Zz o_;clear m_ l_ a9 hp hq a7 g0 g1 g4 p_ o_ hsh;by_cases hbad:last.length < p
   .
    have HF:=Zz (readsF_fail (b:=b) (by rw [d_.o,HI.o,w_.o (fun h=>by omega)];rfl));have e2:decide ((last.length:Int) < (p:Int)) = true:=dT (by omega);go_wp2;go_ret2;exact ⟨⟨none,HF.o,rfl⟩,HB.o⟩
   have e2:decide ((last.length:Int) < (p:Int)) = false:=dF (by omega);by_cases hbad2:ml < q
   .
    have HF:=Zz (readsF_fail (b:=b) (by rw [d_.o,HI.o,w_.o (fun h=>by omega)];rfl));have e3:decide ((ml:Int) < (q:Int)) = true:=dT (by omega);have e4:decide ((b.length:Int) - (d:Int) - 2 < (q:Int)) = true:=dT (by omega);go_wp2;go_ret2;exact ⟨⟨none,HF.o,rfl⟩,HB.o⟩
   have e3:decide ((ml:Int) < (q:Int)) = false:=dF (by omega);have e4:decide ((b.length:Int) - (d:Int) - 2 < (q:Int)) = false:=dF (by omega);obtain ⟨Ac,q_,-,-,f_⟩:=Kd.cut_run (P:=Tryz.prog) byteK 55 5 underlying55 cellsB (.int .u8 0) 1 PackW.info_u8 (some ⟨ba,n_,none⟩) b.length c d2 d3 (by have:=j_.o;have:=g_.o;omega) (by have:=g_.o;omega) h1 h2 h3;obtain ⟨X1,u_⟩:∃ X1,X1 = last.take p:=⟨_,rfl⟩;obtain ⟨X2,v_⟩:∃ X2,X2 = rest.take q:=⟨_,rfl⟩;obtain ⟨X,hX⟩:∃ X,X = X1 ++ X2:=⟨_,rfl⟩;have g8:X1.length = p:=by rw [u_];simp;omega
   have f3:X2.length = q:=by rw [v_];simp;have:=g2.o;omega
   have z_:X.length <= 510:=by rw [hX,Zl];omega
   have a8:rest = b.drop d2:=by
    have h:=congrArg (List.drop 2) a4.o;rw [List.drop_drop,j_.o] at *;exact h.symm
   have s_:b.drop d3 = rest.drop q:=by
    rw [a8,List.drop_drop,g_.o,j_.o]
   have i4:Hid (readN n [] R0 = (readN (n - (k + 1)) X (b.drop d3)).map ((ls ++ [X]) ++ ·)):=Zz (by
    rw [HI.o,h_.o (by omega) (by omega),i2.o,<- u_,<- v_,<- hX,s_,Option.map_map];congr 1;funext l;simp)
   have e6:(b.take d3).drop d2 = X2:=by
    have f0:d3 = d2 + q:=by have:=j_.o;have:=g_.o;omega
    rw [v_,a8,f0,List.drop_take];congr 1;omega
   have a1:=f_ wr (fun k=>k < w.heap.size) b rfl (Kd.row_old HR.o HB.o);rw [e6,show d3 - d2 = X2.length by have:=j_.o;have:=g_.o;omega] at a1;have e7:Hid (∀ nq,(convert 55 9 (.slice Ac X2.length (c - d2))).run Tryz.prog (wr.drewN nq) = .ok (.string (mkS X2)) (wr.drewN nq)):=Zz (fun nq=>BytesEq.conv_bytes (Kd.M_below a1 (bel_drewN (bR _ _) nq)));have i8:∀ (kl kh:IntKind) (w:World),(Instr.slice 55 (.slice (some ⟨ba,n_,none⟩) b.length c) (some (.int kl (d2:Int))) (some (.int kh (d3:Int))) none).run Tryz.prog w = .ok (.slice Ac X2.length (c - d2)) w:=fun kl kh w=>by
    have h:=q_ kl kh w;rw [show d3 - d2 = X2.length by have:=j_.o;have:=g_.o;omega] at h;exact h
   have f7:mkS X1 ++ mkS X2 = mkS X:=by rw [hX,mkS_append]
   have z1:=mkS_size X1;have z2:=mkS_size X2;have j6:(mkS last).extract 0 p = mkS X1:=by rw [mkS_extract,u_];simp
   have h7:=e7.o;have ip:(p:Int) <= (last.length:Int):=by omega
   have f9:Hid (∀ x ∈ ls ++ [X],x.length <= 510):=Zz (fun x hx=>by
    rcases Zk.1 hx with h | h
    .
     exact b6.o x h
    .
     simp at h;subst h;exact z_)
   have d9:=Zz z_;have f1:X2.length <= 255:=by omega
   have g7:X1.length <= 255:=by omega
   have b3:d3 <= b.length:=by have:=g_.o;omega
   have b0:2 * (k + 1) <= d3:=by have:=g_.o;omega
   clear q_ f_ u_ v_ hX g8 f3 a1 e6 a8 s_ z_;go_upto_region 12 with fail
   go_quiet (fail);have c6:=Zz (bel_drewN HB.o nq);have e5:=Zz (Kd.own_below HO.o (bel_drewN (bR _ _) nq));have c8:=Zz (strs_add ls X);have f5:(strs ls).length <= 50000:=by rw [strs_len,i_.o];omega
   obtain ⟨A4,c4,rfl,_,_⟩:=Kd.own_slice HO.o;obtain ⟨Y,a6⟩:∃ Y,Y = strs ls:=⟨_,rfl⟩;rw [<- a6] at HO c8 f5 e5;rw [<- a6];clear a6 x0 x1 h7 e7 HO HB;generalize wr.drewN nq = wq at *;have zX:=mkS_size X;have g6:Hid ((mkS X).size <= 140737488355328):=Zz (by rw [zX];have:=d9.o;omega);go_wp2_with (at_builtin;refine Kd.own_app1 strK (w0:=w) w.heap.size rfl (.tmp 78) (.tmp 80) 51 9 zero_str 16 rfl underlying51 info_str rfl (by decide) _ Y (mkS X) [.string (mkS X)] Clones.TT (by rfl) (by rfl) e5.o ⟨rfl,g6.o⟩ c6.o c6.o.size (by omega) ?_;intro v1 w3' ho1 hb1 hg1 hv1;clear hg1 hv1;rw [c8.o] at ho1;have c1:=Zz ho1;have e8:=Zz hb1;clear ho1 hb1;obtain ⟨A5,c5,rfl,_,_⟩:=Kd.own_slice c1.o;have j7:=b2.o _ e8.o)
   go_roundw
   case rel=>exact ⟨k + 1,d3,X,ls ++ [X],by go_num,by omega,rfl,b3,rfl,d9.o,b0,Zz (by rw [Zl,i_.o];rfl),i4,f9,c1,e8⟩
   case measure=>simp [intOf];omega
  .
   have hd:decide ((k:Int) < (n:Int)) = false:=dF (by omega);have f2:decide (k < n) = false:=dF hlt;have b5:Hid (parseF b = some ls):=Zz (by
    have e:n - k = 0:=by omega
    rw [d_.o,HI.o,e,readN];simp)
   have g9:ls.length <= 50000:=by rw [i_.o];omega
   obtain ⟨A4,c4,rfl,_,_⟩:=Kd.own_slice HO.o;rw [strs_len];have a5:=Zz (by
    have h1:=Kd.own_sl (ok:=TT) (ok':=fun _=>True) HO.o (fun _ _=>trivial) (fun _ _=>trivial)
    rwa [strs_len] at h1:strK.sl.M wr (fun _=>True) (strs ls) [.slice A4 ls.length c4])
   have x_:=Zz HB.o;have e_:=Zz (fun W (hW:Below wr.heap.size wr W)=>may6_calls ls (by omega) (fun x hx=>by have:=b6.o x hx;omega) A4 c4 W (strK.sl.mono (fun _ _ _=>trivial) (Kd.M_below (Kd.M_bound a5.o) hW)));have c_:=bR wr.heap.size wr;have b7:=BytesEq.conv_bytes (byteK.sl.mono (ok':=fun _=>True) (fun _ _ _=>trivial) (Kd.M_below HM.o x_.o));have d0:=Zz (fun W (hW:Below wr.heap.size wr W)=>BytesEq.conv_bytes (byteK.sl.mono (ok':=fun _=>True) (fun _ _ _=>trivial) (Kd.M_below HM.o (bel_step x_.o hW))));clear HO HB HI hd f6;by_cases hmay:MayF ls
   .
    have f4:=Zz hmay;have h9:Hid (∀ W,Below wr.heap.size wr W -> Calls Tryz.prog 38 #[.slice A4 ls.length c4] W fun e w'=>e = .returned (.bool true)/\Below W.heap.size W w'):=Zz (fun W hW=>(e_.o W hW).mono (by
     rintro e w' ⟨⟨r,rfl,hr⟩,hb⟩;have h:=hr.2 hmay;subst h;exact ⟨rfl,hb⟩))
    clear e_;have c0:=Zz (fun W (hW:Below wr.heap.size wr W)=>bytes_calls ls hmay.1 (fun x hx=>(hmay.2.1 x hx).2) A4 c4 W (Kd.M_bound (Kd.M_below (Kd.M_bound a5.o) hW)));obtain ⟨F,hF⟩:∃ F,F = frontB ls:=⟨_,rfl⟩;have c3:=Zz hF;rw [<- hF] at c0;have h4:=Cmp.beq_eq F b;have tF:=mkS_toList F;have tb:=mkS_toList b;have h5:(F == b) = decide (F = b):=by
     by_cases h:F = b
     .
      subst h;simp
     .
      simp [h]
    have h6:(F != b) = !decide (F = b):=by rw [bne,h5]
    have r_:Hid (∀ (W:World),Below w.heap.size w W -> strK.sl.M W (fun _=>True) (strs ls) [.slice A4 ls.length c4] -> decide (F = b) = true -> RdPost6 b w (.returned (.tuple #[.slice A4 ls.length c4,.int .i64 0])) W):=Zz (fun W hW hm hfb=>⟨⟨some ls,readsF_parse b5.o f4.o (by rw [<- c3.o];exact of_decide_eq_true hfb),A4,c4,rfl,hm⟩,hW⟩);have t_:Hid (∀ (W:World),Below w.heap.size w W -> decide (F = b) = false -> RdPost6 b w (.returned (.tuple #[.slice none 0 0,.int .i64 2])) W):=Zz (fun W hW hfb=>⟨⟨none,readsF_not b5.o (fun h=>of_decide_eq_false hfb (by rw [c3.o];exact h.2)),rfl⟩,hW⟩);have b1:=Zz (fun W (hW:Below wr.heap.size wr W)=>strK.sl.mono (ok':=fun _=>True) (fun _ _ _=>trivial) (Kd.M_below (Kd.M_bound a5.o) hW));clear hmay hF;generalize hz:decide (F = b) = z at *;clear hz;go_upto_region 15 with fail
    go_region_with (first
     | (go_at_call 38;refine (h9.o _ ?_).mono ?_;(repeat (first | assumption | exact bR _ _ | refine bel_drew ?_ | refine bel_alloc ?_ _));rintro e w8 ⟨rfl,a3⟩;have c_:Below wr.heap.size wr w8:=bel_step (by repeat (first | assumption | exact bR _ _ | refine bel_drew ?_ | refine bel_alloc ?_ _)) a3;have b7:=d0.o w8 c_)
     | (go_at_call 41;refine (c0.o _ ?_).mono ?_;(repeat (first | assumption | exact bR _ _ | refine bel_drew ?_ | refine bel_alloc ?_ _));rintro e w9 ⟨⟨v9,rfl,b4⟩,a3⟩;have g5:=Kd.own_sl (ok:=TT) (ok':=fun _=>True) b4 (fun _ _=>trivial) (fun _ _=>trivial);obtain ⟨A9,c9,rfl,_,_⟩:=Kd.own_slice b4;have j5:=BytesEq.conv_bytes g5;have c_:Below wr.heap.size wr w9:=bel_step (by repeat (first | assumption | exact bR _ _ | refine bel_drew ?_ | refine bel_alloc ?_ _)) a3;have b7:=d0.o w9 c_;clear b4))
    all_goals (
     have k_:=Zz (bel_step x_.o c_);have y_:=Zz (b1.o _ c_);cases z
     .
      go_wp2;go_ret2
      first | exact t_.o _ k_.o rfl | exact t_.o _ k_.o trivial
     .
      go_wp2;go_ret2
      first | exact r_.o _ k_.o y_.o rfl | exact r_.o _ k_.o y_.o trivial)
   .
    have HF:=Zz (readsF_not b5.o (fun h=>hmay h.1));have y_:Hid (∀ W,Below wr.heap.size wr W -> Calls Tryz.prog 38 #[.slice A4 ls.length c4] W fun e w'=>e = .returned (.bool false)/\Below W.heap.size W w'):=Zz (fun W hW=>(e_.o W hW).mono (by
     rintro e w' ⟨⟨r,rfl,hr⟩,hb⟩;have h:r = false:=by
      cases r
      .
       rfl
      .
       exact absurd (hr.1 rfl) hmay
     subst h;exact ⟨rfl,hb⟩))
    have d4:=Zz (fun p:QT.Bel wr=>y_.o p.w p.bel);clear hmay e_;go_upto_region 15 with fail
    refine QT.region_all (by kernel_rfl) (by kernel_rfl) ?_
    iterate 1 (go_big_quiet_step (fail))
    go_big_quiet_step (exact QT.Bel.call _ (d4.o _))
    iterate 9 (go_big_quiet_step (fail))
    refine wpQuiet_nil ?_;intro w5 hw';obtain ⟨⟨_,d5⟩,rfl⟩:=hw';have k_:=Zz (bel_step x_.o d5);clear d5 d4;go_wp2;go_ret2;exact ⟨⟨none,HF.o,rfl⟩,k_.o⟩
end Ref6
namespace Ref2
open Go.RowKit Go.Lib B Rd StoreW Clones PackP PackW
theorem numB_low (b:List UInt8) (f:Nat):∀ c,numB b f (c + 1) = (bitB b f).toNat + 2 * numB b (f + 1) c
 | 0=>by simp [numB]
 | c + 1=>by
  rw [numB,numB_low b f c,numB,show f + 1 + c = f + (c + 1) by omega,Nat.pow_succ];have:(bitB b (f + (c + 1))).toNat * (2 ^ c * 2) = 2 * ((bitB b (f + (c + 1))).toNat * 2 ^ c):=by
   rw [Nat.mul_comm (2 ^ c) 2,Nat.mul_left_comm]
  rw [this,Nat.mul_add];omega
theorem or_low (x z:Nat) (hx:x < 2 ^ 40) (hz:z <= 1):Go.bits .or .i64 ((2 * x:Nat):Int) (z:Int) = ((z + 2 * x:Nat):Int):=by
 have a_:∀ n:Int,0 <= n -> n < 2 ^ 63 -> IntKind.i64.wrap n = n:=fun n h0 h1=>by rw [Zw];omega
 rw [bits_join .i64 63 (by decide) a_ 1 ((2 * x:Nat):Int) (z:Int) (by omega) (by omega) (by omega) (by omega) (by omega) (by omega)];omega
theorem rowB_snoc (b:List UInt8) (i wd:Nat):rowB b i wd ++ [numB b (i * wd) wd] = rowB b (i + 1) wd:=by
 unfold rowB;rw [List.range_succ,List.map_append]
 try rfl
theorem unpack_calls (b:List UInt8) (n wd:Nat) (hn:n <= 1000) (hw:wd <= 19) (A:Option Addr) (c:Nat) (w:World) (HL:byteK.sl.M w (fun _=>True) b [.slice A b.length c]) :
  Calls Tryz.prog 76 #[.slice A b.length c,.int .i64 n,.int .i64 wd] w (UnpPost b n wd w):=by
 have HM:=Zz (Kd.M_bound HL);obtain ⟨A',c',hv,h1,h2,h3,v_⟩:=HL;obtain ⟨rfl,rfl⟩:A = A'/\c = c':=by simpa using hv
 have HR:=Zz (Kd.row_mono (ok':=fun k=>k < w.heap.size) (fun k _ hk=>hk) v_);clear v_;obtain ⟨m,hm⟩:∃ m,m = n * wd:=⟨_,rfl⟩;have c1:(n:Int) * (wd:Int) = (m:Int):=by rw [hm];rfl
 have d2:m <= 20000:=by rw [hm];exact Zh (Nat.mul_le_mul hn hw) (by decide)
 have c5:IntKind.i64.wrap (m:Int) = (m:Int):=by rw [Zw];omega
 have x_:=Zz hm;obtain ⟨sz,y_⟩:∃ sz,sz = (m + 7) / 8:=⟨_,rfl⟩;have a5:((m:Int) + 7) / 8 = (sz:Int):=by omega
 have a3:sz <= 2501:=by omega
 have q_:=Zz y_;clear hm y_;have y1:decide ((wd:Int) < 0) = false:=dF (by omega);have y2:decide ((20:Int) < (wd:Int)) = false:=dF (by omega);have y3:decide ((n:Int) < 0) = false:=dF (by omega);have y4:decide ((1000:Int) < (n:Int)) = false:=dF (by omega);by_cases hlen:b.length = sz
 case neg =>
  have a2:((b.length:Int) != (sz:Int)) = true:=by simp;omega
  have HN:=Zz (readsN_size (b:=b) (n:=n) (wd:=wd) (by rw [<- x_.o,<- q_.o];exact hlen));clear hlen;go_enter func76,ntmps76;go_wp2;go_ret2;exact ⟨⟨none,HN.o,rfl⟩,bR _ _⟩
 have a2:((b.length:Int) != (sz:Int)) = false:=by simp;omega
 have r_:Hid (intK.own 3 w w.heap.size Clones.TT (.slice none 0 0) (natZ (rowB b 0 wd))):=Zz (Kd.own_nil _ _ _ _ _);have l_:=Zz hlen;have c6:b.length <= 2501:=by omega
 clear hlen;go_enter func76,ntmps76;go_wp2;go_loopw [8,9] (fun v8 vi wr=>∃ i:Nat,vi = .int .i64 i/\i <= n/\Hid (intK.own 3 wr w.heap.size Clones.TT v8 (natZ (rowB b i wd))/\Below w.heap.size w wr)) (fun _ vi _=>n - (intOf vi).toNat)
 case atStart=>exact ⟨0,rfl,by omega,Zz ⟨r_.o,bR _ _⟩⟩
 case round =>
  obtain ⟨i,rfl,d6,HI⟩:=hrel;clear r_;obtain ⟨Y,hY⟩:∃ Y,Y = natZ (rowB b i wd):=⟨_,rfl⟩;rw [<- hY] at HI;have h_:=Zz hY;have b8:Y.length <= 1000:=by rw [hY,natZ_len,rowB_len];omega
  clear hY;obtain ⟨A8,c8,rfl,_,_⟩:=Kd.own_slice HI.o.1;by_cases hlt:i < n
  .
   have hd:decide (i < n) = true:=dT hlt;have ik:(i:Int) < (n:Int):=by omega
   obtain ⟨fr,f_⟩:∃ fr,fr = i * wd:=⟨_,rfl⟩;have b5:(i:Int) * (wd:Int) = (fr:Int):=by rw [f_];rfl
   have b2:fr + wd <= m:=by
    rw [f_,x_.o];have:=Nat.mul_le_mul_right wd (show i + 1 <= n from hlt);rw [Nat.succ_mul] at this;exact this
   have a8:=Zz f_;have b9:=Zz HI.o.1;have m_:=Zz HI.o.2;clear f_ HI;have s_:Hid (0 = numB b (fr + wd) (wd - wd)):=Zz (by rw [Nat.sub_self,numB]);have d4:IntKind.i64.wrap ((wd:Int) - 1) = (wd:Int) - 1:=by rw [Zw];omega
   go_wp2;go_loopw [10,11] (fun vx vk wx=>∃ (k x:Nat) (a:Int),vk = .int .i64 a/\a = (k:Int) - 1/\k <= wd/\vx = .int .i64 x/\Hid (x = numB b (fr + k) (wd - k))/\wr = wx) (fun _ vk _=>(intOf vk + 1).toNat)
   case atStart=>exact ⟨wd,0,_,rfl,rfl,by omega,rfl,s_,rfl⟩
   case round =>
    obtain ⟨k,x,a,rfl,w_,d3,rfl,HX,rfl⟩:=hrel;clear s_;cases k with
    | zero =>
     obtain rfl:a = -1:=by omega
     have d0:decide ((0:Int) <= -1) = false:=by decide
     have z_:Hid (x = numB b (i * wd) wd):=Zz (by rw [HX.o,a8.o];simp);have a0:x <= 1000000:=by
      have h:=numB_lt b (i * wd) wd;have a4:(2:Nat) ^ wd <= 2 ^ 19:=Nat.pow_le_pow_right (by decide) (by omega);have:=z_.o;omega
     have b7:Hid (Y ++ [(x:Int)] = natZ (rowB b (i + 1) wd)):=Zz (by rw [h_.o,<- rowB_snoc,z_.o];simp [natZ]);clear HX w_;go_wp2_with (at_builtin;refine Kd.own_app1 intK (w0:=w) w.heap.size rfl (.tmp 67) (.tmp 69) 74 3 zero_int 8 rfl underlying74 info_int rfl (by decide) _ Y (x:Int) [.int .i64 (x:Int)] Clones.TT (by rfl) (by rfl) b9.o ⟨rfl,by omega⟩ m_.o m_.o.size (by omega) ?_;intro v1 w7 ho1 hb1 hg1 hv1;clear hg1 hv1;rw [b7.o] at ho1;have o_:=Zz ho1;have c2:=Zz hb1;clear ho1 hb1;obtain ⟨A7,c7,rfl,_,_⟩:=Kd.own_slice o_.o)
     go_wp2;go_roundw
     case rel=>exact ⟨i + 1,by go_num,by omega,Zz ⟨o_.o,c2.o⟩⟩
     case measure=>simp [intOf];omega
    | succ j =>
     obtain rfl:a = (j:Int):=by omega
     have i_:(fr + j) / 8 < b.length:=by have:=q_.o;have:=l_.o;omega
     have jz:(((fr + j) / 8:Nat):Int) < (b.length:Int):=by omega
     obtain ⟨ba,a7,rfl,a_⟩:=BoxWalk.u8_plain HR.o (by omega);have t_:=(m_.o.cell (p:=⟨ba,a7 + (fr + j) / 8,none⟩) (cell_lt (a_ _ i_))).trans (a_ _ i_);obtain ⟨v,hv⟩:∃ v:UInt8,v = b[(fr + j) / 8]:=⟨_,rfl⟩;rw [<- hv] at t_;obtain ⟨z,hz⟩:∃ z,z = (v.toNat.testBit ((fr + j) % 8)).toNat:=⟨_,rfl⟩;have k_:=bit_and v ((fr + j) % 8);rw [<- hz] at k_;have a9:z <= 1:=by rw [hz];cases v.toNat.testBit ((fr + j) % 8) <;> simp
     have a0:x < 2 ^ 40:=by
      rw [HX.o];exact Nat.lt_of_lt_of_le (numB_lt _ _ _) (Nat.pow_le_pow_right (by decide) (by omega))
     have a6:=or_low x z a0 a9;obtain ⟨y,hy⟩:∃ y,y = z + 2 * x:=⟨_,rfl⟩;obtain ⟨t,ht⟩:∃ t,t = 2 * x:=⟨_,rfl⟩;rw [<- hy,<- ht] at a6;have c9:IntKind.i64.wrap ((x:Int) * 2) = (t:Int):=by rw [Zw];omega
     have HY:Hid (y = numB b (fr + j) (wd - j)):=Zz (by
      rw [hy,show wd - j = wd - (j + 1) + 1 by omega,numB_low,HX.o,hz];unfold bitB;rw [Zg i_,<- hv];rfl)
     have d0:decide ((0:Int) <= (j:Int)) = true:=dT (by omega);have c3:IntKind.i64.wrap ((j:Int) - 1) = (j:Int) - 1:=by rw [Zw];omega
     clear hy ht hz hv a_ HX w_;have d1:IntKind.u64.wrap (((fr + j) % 8:Nat):Int) = (((fr + j) % 8:Nat):Int):=by rw [IntKind.wrap_u64];omega
     go_wp2;go_roundw
     case rel=>exact ⟨j,y,_,rfl,rfl,by omega,rfl,HY,trivial⟩
     case measure=>first | (simp [intOf];done) | (simp [intOf];omega)
  .
   have hd:decide (i < n) = false:=dF hlt;obtain rfl:i = n:=by omega
   have b6:=Zz HI.o.2;have b_:Hid ((rowB b i wd).length = i):=Zz (rowB_len _ _ _);have p_:Y.length = i:=by rw [h_.o,natZ_len,b_.o]
   have a1:Hid (∀ x ∈ rowB b i wd,x <= 1000000/\Lib.bitLen x <= wd):=Zz (fun x hx=>by
    have h:=rowB_lt _ _ _ x hx;have a4:(2:Nat) ^ wd <= 2 ^ 19:=Nat.pow_le_pow_right (by decide) (by omega);exact ⟨by omega,Lib.bitLen_le _ _ (by omega) h⟩)
   have c_:=Kd.own_sl (ok:=Clones.TT) (ok':=fun _=>True) HI.o.1 (fun _ _=>trivial) (fun _ _=>trivial);rw [h_.o,natZ_len,b_.o] at c_;rw [p_];have b0:=Zz c_;have e_:=Zz (pack_calls (rowB b i wd) wd (by omega) (by rw [b_.o];omega) (fun n hn=>⟨Zh (a1.o n hn).1 (by decide),(a1.o n hn).2⟩) A8 c8 wr (Kd.M_bound (by rw [b_.o];exact c_)));rw [b_.o] at e_;obtain ⟨F,hF⟩:∃ F,F = packB (rowB b i wd) wd:=⟨_,rfl⟩;have u_:=Zz hF;rw [<- hF] at e_;clear HI hF c_ p_ b8;go_wp2_with fail;refine e_.o.mono ?_;rintro e w4 ⟨⟨v4,rfl,n_⟩,g_⟩;have d_:=Zz (bel_step b6.o g_);have j_:=Kd.own_sl (ok:=PackW.TT) (ok':=fun _=>True) n_ (fun _ _=>trivial) (fun _ _=>trivial);obtain ⟨A4,c4,rfl,_,_⟩:=Kd.own_slice n_;have d5:=BytesEq.conv_bytes j_;have t_:=BytesEq.conv_bytes (byteK.sl.mono (ok':=fun _=>True) (fun _ _ _=>trivial) (Kd.M_below HM.o d_.o));have c0:=Zz (fun nq=>BytesEq.conv_bytes (Kd.M_below (Kd.M_bound j_) (bel_drewN (bR _ _) nq)));have b3:=Zz (fun nq=>BytesEq.conv_bytes (byteK.sl.mono (ok':=fun _=>True) (fun _ _ _=>trivial) (Kd.M_below HM.o (bel_drewN d_.o nq))));have b1:Hid (intK.sl.M w4 (fun _=>True) (natZ (rowB b i wd)) [.slice A8 i c8]):=Zz (intK.sl.mono (fun _ _ _=>trivial) (Kd.M_below (Kd.M_bound b0.o) g_));have h4:=Cmp.beq_eq F b;have tF:=mkS_toList F;have tb:=mkS_toList b;have ga:=c0.o;have gb:=b3.o;clear n_ g_ j_ e_;by_cases hfb:F = b
   .
    have HF:=Zz (readsN_row (b:=b) (n:=i) (wd:=wd) (by rw [<- u_.o];exact hfb));have b4:(F == b) = true:=by rw [hfb];simp
    rw [dT hfb] at h4;clear hfb;dsimp only;go_wp2;go_ret2;exact ⟨⟨some (rowB b i wd),HF.o,A8,c8,(by rw [b_.o];try rfl),(by rw [b_.o];exact b1.o)⟩,d_.o⟩
   .
    have HF:=Zz (readsN_not (b:=b) (n:=i) (wd:=wd) (by rw [<- u_.o];exact hfb));have b4:(F == b) = false:=by simp [hfb]
    rw [dF hfb] at h4;clear hfb;dsimp only;go_wp2;go_ret2;exact ⟨⟨none,HF.o,rfl⟩,d_.o⟩
end Ref2
namespace RefDec
open Go.RowKit Go.Lib B Rd TermPure LinesPure Tri SortP OrdG Env StoreP StoreW FrontP PackP BoxPure BoxWalk BoxPack RefOf
def DPost (b:List UInt8) (w:World) (e:Ending) (w':World):Prop:=
 (∃ r,DecR b r/\match r with
  | none=>e = .returned (.tuple #[.pointer none,.int .i64 2])
  | some T=>∃ g,e = .returned (.tuple #[.pointer (some ⟨g,0,none⟩),.int .i64 0])/\RefAt w' (fun _=>True) g T)/\Below w.heap.size w w'
theorem refdec_calls (b:List UInt8) (hb:b.length <= 80000) (A:Option Addr) (c:Nat) (w:World) (he:Env w) (HL:byteK.sl.M w (fun _=>True) b [.slice A b.length c]) :
  Calls Tryz.prog 36 #[.slice A b.length c] w (DPost b w):=by
 have HM:=Zz (Kd.M_bound HL);have HU:=Zz (BoxRefUn.refunpack_calls b hb _ w HL);have HE:=Zz he;clear HL he;go_enter func36,ntmps36;go_wp2_with fail;refine HU.o.mono ?_;rintro e w1 ⟨f2,r,hr,hm⟩;have t_:=Zz f2;clear HU f2;cases r with
 | none =>
  dsimp only at hm;subst hm;have HF:=Zz (dec_none_box hr);clear hr;dsimp only;go_wp2;go_ret2;exact ⟨⟨none,HF.o,rfl⟩,t_.o⟩
 | some l =>
  obtain ⟨v,rfl,ho⟩:=hm;have e_:=Zz hr;have d5:=Kd.own_sl (ok':=fun _=>True) ho (fun _ _=>trivial) (fun _ _=>trivial);obtain ⟨A4,c4,rfl,_,_⟩:=Kd.own_slice ho;have h4:=Zz d5;clear hr ho d5;dsimp only;by_cases h2:l.length = 2
  case neg =>
   have i6:((l.length:Int) != 2) = true:=by simp;omega
   have HF:=Zz (dec_none_len e_.o h2);clear h2;go_wp2;go_ret2;exact ⟨⟨none,HF.o,rfl⟩,t_.o⟩
  obtain ⟨s1,s2,rfl⟩:∃ s1 s2,l = [s1,s2]:=by
   match l,h2 with
   | [a,b'],_=>exact ⟨a,b',rfl⟩
  obtain ⟨b4,o4,rfl,b9,i_⟩:=SecTwo.sec_at h4.o (by simp);obtain ⟨A1,c1,k1,b7⟩:=i_ 0 (by simp);obtain ⟨A2,c2,k2,b2⟩:=i_ 1 (by simp);simp only [List.getElem_cons_zero,List.getElem_cons_succ,Nat.zero_mul,Nat.add_zero,Nat.one_mul] at k1 k2 b7 b2;simp only [Zc,List.length_nil,Nat.zero_add,Nat.reduceAdd] at *;have h_:=(e_.o [s1,s2]).1 rfl;have HK:=Zz (fun W (hW:Below w1.heap.size w1 W)=>(⟨(hW.cell (p:=⟨b4,o4 + 1,none⟩) b9).trans k1,(hW.cell (p:=⟨b4,o4 + 2 + 1,none⟩) b9).trans k2⟩:W.cell? ⟨b4,o4 + 1,none⟩ = some (.slice A1 s1.2.length c1)/\W.cell? ⟨b4,o4 + 2 + 1,none⟩ = some (.slice A2 s2.2.length c2)));have a3:=Zz b7;have o_:=Zz b2;clear b7 b2 i_ h2;by_cases hsh:s2.2.length < 2
  .
   have d2:decide ((s2.2.length:Int) < 2) = true:=dT (by omega);have HF:=Zz (dec_none_short e_.o hsh);go_wp2;go_ret2;exact ⟨⟨none,HF.o,rfl⟩,t_.o⟩
  have d2:decide ((s2.2.length:Int) < 2) = false:=dF (by omega);have a8:s1.2.length <= 100000:=by
   have h:=h_.1.2.2;simp only [total,Zc,List.length_nil] at h;omega
  have h8:s2.2.length <= 100000:=by
   have h:=h_.1.2.2;simp only [total,Zc,List.length_nil] at h;omega
  have f5:=Zz (Ref6.read6_calls s1.2 a8 A1 c1 w1 a3.o);obtain ⟨i2,g5,e4,g1,g2,g3,gr⟩:=id o_.o;obtain ⟨rfl,rfl⟩:A2 = i2/\c2 = g5:=by simpa using e4
  obtain ⟨bx,ox,rfl,d_⟩:=u8_plain gr (by omega);have e8:bx < w1.heap.size:=cell_lt (d_ 0 (by omega));obtain ⟨p0,w_⟩:∃ p0,p0 = s2.2[0].toNat:=⟨_,rfl⟩;obtain ⟨p1,y_⟩:∃ p1,p1 = s2.2[1].toNat:=⟨_,rfl⟩;have l0:p0 < 256:=by rw [w_];exact s2.2[0].toNat_lt
  have l1:p1 < 256:=by rw [y_];exact s2.2[1].toNat_lt
  obtain ⟨c_,k_⟩:∃ c_,c_ = cntB s2.2:=⟨_,rfl⟩;have g6:p0 * 256 + p1 = c_:=by
   rw [k_,w_,y_];unfold cntB;rw [List.getD_eq_getElem?_getD,List.getD_eq_getElem?_getD,Zg (by omega),Zg (by omega)]
   try rfl
  have f1:∀ n:Int,0 <= n -> n < 2 ^ 63 -> IntKind.i64.wrap n = n:=fun n h0 h1=>by rw [Zw];omega
  have i7:Go.bits .or .i64 ((p0:Int) * 256) (p1:Int) = (c_:Int):=by
   rw [bits_join .i64 63 (by decide) f1 8 ((p0:Int) * 256) (p1:Int) (by omega) (by omega) (by omega) (by omega) (by omega) (by omega)];omega
  have j0:IntKind.i64.wrap ((p0:Int) * 256) = (p0:Int) * 256:=by rw [Zw];omega
  have HY:=Zz (fun W (hW:Below w1.heap.size w1 W)=>(⟨(hW.cell (p:=⟨bx,ox + 0,none⟩) e8).trans (d_ 0 (by omega)),(hW.cell (p:=⟨bx,ox + 1,none⟩) e8).trans (d_ 1 (by omega))⟩:W.cell? ⟨bx,ox + 0,none⟩ = some (.int .u8 (s2.2[0].toNat:Int))/\W.cell? ⟨bx,ox + 1,none⟩ = some (.int .u8 (s2.2[1].toNat:Int))));rw [<- w_,<- y_] at HY;have b3:=Zz k_;have y0:(0:Int) < (s2.2.length:Int):=by omega
  have y1:(1:Int) < (s2.2.length:Int):=by omega
  have i8:c_ <= 65535:=by omega
  clear g6 w_ y_ k_ d_ gr h_ f1 hsh e4;go_wp2_with fail;refine f5.o.mono ?_;rintro e w2 ⟨⟨r6,hf,a5⟩,r_⟩;have b0:=Zz (bel_step t_.o r_);have q_:=Zz r_;obtain ⟨z1,z2⟩:=HY.o w2 r_;obtain ⟨q1,q2⟩:=HK.o w2 r_;rw [Nat.add_zero] at z1;clear f5 r_ k1 k2;cases r6 with
  | none =>
   dsimp only at a5;subst a5;have HF:=Zz (dec_none_front e_.o hf);have g4:=Zz (fun q=>bel_drewN b0.o q);clear hf;dsimp only;go_upto_region 5 with fail
   go_quiet (fail);go_wp2;go_ret2;exact ⟨⟨none,HF.o,rfl⟩,g4.o _⟩
  | some L =>
   obtain ⟨A6,c6,rfl,e6⟩:=a5;have m_:=Zz hf;have d4:=Zz e6;clear hf e6;dsimp only;go_upto_region 5 with fail
   go_quiet (fail);have a4:=Zz (bel_drewN b0.o nq);have b8:=Zz (bel_drewN q_.o nq);have h5:=Zz (strK.sl.mono (ok':=fun _=>True) (fun _ _ _=>trivial) (Kd.M_below (Kd.M_bound d4.o) (bel_drewN (bR _ _) nq)));clear q1 q2 z1 z2 b0 q_ d4;generalize w2.drewN nq = w3 at *;by_cases h100:100 < c_
   .
    have d1:decide ((100:Int) < (c_:Int)) = true:=dT (by omega);have HF:=Zz (dec_none_cnt e_.o (by rw [<- b3.o];exact h100));go_wp2;go_ret2;exact ⟨⟨none,HF.o,rfl⟩,a4.o⟩
   have d1:decide ((100:Int) < (c_:Int)) = false:=dF (by omega);have i9:c_ <= 100:=by omega
   have b6:=((m_.o L).1 rfl).1;have g7:L.length <= 300:=b6.1;have c3:=Zz (RefTerm.refterms_calls L g7 (fun x hx=>by have:=b6.2.1 x hx;omega) A6 c6 w3 (HE.o.below a4.o) h5.o);obtain ⟨wd,z_⟩:∃ wd,wd = Lib.bitLen L.length:=⟨_,rfl⟩;have i3:wd <= 9:=by rw [z_];exact Lib.bitLen_le _ 9 (by decide) (by omega)
   have d9:=Zz (fun W=>Ref2.width_calls L.length (by omega) W);rw [<- z_] at d9;obtain ⟨n3,f8⟩:∃ n3,n3 = 3 * c_:=⟨_,rfl⟩;have e7:(3:Int) * (c_:Int) = (n3:Int):=by omega
   have g8:n3 <= 300:=by omega
   have i5:IntKind.i64.wrap (n3:Int) = (n3:Int):=by rw [Zw];omega
   have a7:(s2.2.drop 2).length = s2.2.length - 2:=by simp
   obtain ⟨x_,-,n_,-,g_⟩:=Kd.cut_run (P:=Tryz.prog) byteK 55 5 underlying55 BoxUnpack.cellsB (.int .u8 0) 1 PackW.info_u8 (some ⟨bx,ox,none⟩) s2.2.length c2 2 s2.2.length (by omega) (lR _) g1 g2 (fun h=>by cases h);have i0:∀ (kl:IntKind) (w:World),(Instr.slice 55 (.slice (some ⟨bx,ox,none⟩) s2.2.length c2) (some (.int kl 2)) none none).run Tryz.prog w = .ok (.slice x_ (s2.2.length - 2) (c2 - 2)) w:=fun kl w=>n_ kl w rfl
   have s_:byteK.sl.M w1 (fun _=>True) (s2.2.drop 2) [.slice x_ (s2.2.drop 2).length (c2 - 2)]:=by
    obtain ⟨_,_,hv,_,_,_,hr⟩:=id o_.o;simp at hv;obtain ⟨rfl,rfl⟩:=hv;have h:=g_ w1 _ s2.2 rfl hr;rw [List.take_length] at h;rw [a7];exact h
   clear n_ g_;have a9:=Zz (fun W (hW:Below w1.heap.size w1 W)=>Ref2.unpack_calls (s2.2.drop 2) n3 wd (by omega) (by omega) x_ (c2 - 2) W (byteK.sl.mono (fun _ _ _=>trivial) (Kd.M_below (Kd.M_bound s_) hW)));rw [a7] at a9;have i4:Hid (∀ W,Below w1.heap.size w1 W -> Calls Tryz.prog 76 #[.slice x_ (s2.2.length - 2) (c2 - 2),.int .i64 n3,.int .i64 wd] W fun e w'=>(∃ A' n' c' g,e = .returned (.tuple #[.slice A' n' c',.int .i64 g])/\((g = 2/\ReadsN (s2.2.drop 2) n3 wd none) \/ (g = 0/\∃ l,ReadsN (s2.2.drop 2) n3 wd (some l)/\n' = l.length/\intK.sl.M w' (fun _=>True) (natZ l) [.slice A' l.length c'])))/\Below W.heap.size W w'):=Zz (fun W hW=>(a9.o W hW).mono (by
    rintro e w' ⟨⟨r,hr,hm⟩,hb⟩;cases r with
    | none=>exact ⟨⟨none,0,0,2,hm,.inl ⟨rfl,hr⟩⟩,hb⟩
    | some l =>
     obtain ⟨A',c',he,hM⟩:=hm;exact ⟨⟨A',l.length,c',0,he,.inr ⟨rfl,l,hr,rfl,hM⟩⟩,hb⟩))
   clear a9;have e2:=Zz z_;have u_:=Zz f8;clear z_ f8 a7 b6 s_;go_wp2_with fail;refine c3.o.mono ?_;rintro e w4 ⟨b_,j_⟩;have j1:=Zz (bel_step a4.o j_);have b5:=Zz (bel_step b8.o j_);clear c3 j_;obtain ⟨A9,n9,c9,v_,rfl,hT⟩:∃ A9 n9 c9 v_,e = .returned (.tuple #[.slice A9 n9 c9,.bool v_])/\((v_ = false/\DecR b none) \/ (v_ = true/\∃ E,L = E.map shown/\n9 = E.length/\(∀ t ∈ E,is t = true)/\termK.sl.M w4 (fun _=>True) E [.slice A9 E.length c9])):=by
    rcases b_ with ⟨⟨x,hxL,hxn⟩,rfl⟩ | ⟨E,A9,c9,hLE,hEi,rfl,hME⟩
    .
     exact ⟨_,_,_,_,rfl,.inl ⟨rfl,dec_none_terms e_.o m_.o hxL hxn⟩⟩
    .
     exact ⟨_,_,_,_,rfl,.inr ⟨rfl,E,hLE,rfl,hEi,hME⟩⟩
   have HT:=Zz hT;clear b_ hT;dsimp only;have a_:Below w1.heap.size w1 w4.drew:=bel_drew b5.o;have hS:=(HK.o w4.drew a_).2;go_upto_region 9 with fail
   refine HeldZ.region (fun W=>W.cell? ⟨b4,o4 + 2 + 1,none⟩ = some (Value.slice (some ⟨bx,ox,none⟩) s2.2.length c2)) 15 16 #[false,false,false,false,false,false,false,false,false,false,false,false,false,false,false,false] (by kernel_rfl) rfl rfl ?_;intro hinv;refine HeldZ.tk 0 hinv hS ?_;clear hinv;intro hinv
   try simp only [Act.put,Zs,HeldZ.sm] at hinv |-
   refine HeldZ.tk 1 hinv hS ?_;clear hinv;intro hinv
   try simp only [Act.put,Zs,HeldZ.sm] at hinv |-
   refine HeldZ.tk 2 hinv hS ?_;clear hinv;intro hinv
   try simp only [Act.put,Zs,HeldZ.sm] at hinv |-
   refine HeldZ.tk 3 hinv hS ?_;clear hinv;intro hinv
   try simp only [Act.put,Zs,HeldZ.sm] at hinv |-
   refine HeldZ.tk 4 hinv hS ?_;clear hinv;intro hinv
   try simp only [Act.put,Zs,HeldZ.sm] at hinv |-
   refine HeldZ.tk 5 hinv hS ?_;clear hinv;intro hinv
   try simp only [Act.put,Zs,HeldZ.sm] at hinv |-
   refine HeldZ.tk 6 hinv hS ?_;clear hinv;intro hinv
   try simp only [Act.put,Zs,HeldZ.sm] at hinv |-
   refine HeldZ.tk 7 hinv hS ?_;clear hinv;intro hinv
   try simp only [Act.put,Zs,HeldZ.sm] at hinv |-
   refine HeldZ.tk 8 hinv hS ?_;clear hinv;intro hinv
   try simp only [Act.put,Zs,HeldZ.sm] at hinv |-
   refine HeldZ.ow 9 hinv ?_;clear hinv;intro hinv K hK;go_simp;refine (d9.o _).mono ?_;rintro e w5 ⟨rfl,rfl⟩;refine hK _ _ (fun _=>hS) ?_;clear hK K
   try simp only [Act.put,Zs,HeldZ.sm] at hinv |-
   refine HeldZ.ow 10 hinv ?_;clear hinv;intro hinv K hK;go_simp;refine (i4.o _ a_).mono ?_;rintro e w6 ⟨⟨h9,j4,f9,j2,rfl,b_⟩,hb6⟩;have b1:=Zz hb6;have a_:Below w1.heap.size w1 w6:=bel_step (by assumption) hb6;have f4:=Zz b_;clear b_ hb6 hS;have hS:=(HK.o w6 a_).2;refine hK _ _ (fun _=>hS) ?_;clear hK K
   try simp only [Act.put,Zs,HeldZ.sm] at hinv |-
   refine HeldZ.tk 11 hinv hS ?_;clear hinv;intro hinv
   try simp only [Act.put,Zs,HeldZ.sm] at hinv |-
   refine HeldZ.tk 12 hinv hS ?_;clear hinv;intro hinv
   try simp only [Act.put,Zs,HeldZ.sm] at hinv |-
   refine HeldZ.tk 13 hinv hS ?_;clear hinv;intro hinv
   try simp only [Act.put,Zs,HeldZ.sm] at hinv |-
   refine HeldZ.tk 14 hinv hS ?_;clear hinv;intro hinv
   try simp only [Act.put,Zs,HeldZ.sm] at hinv |-
   refine HeldZ.oneW 15 hinv (by kernel_rfl) rfl (by rfl) ?_;clear hinv;intro _ K hK;go_simp;refine hK _ _ (fun h=>absurd rfl h) ?_;refine HeldZ.done (by kernel_rfl) ?_ _;clear hK K hS;have a0:=Zz (bel_step t_.o a_);have h6:=Zz (bel_step (bel_drew (bR w4.heap.size w4)) b1.o);clear a_;rcases HT.o with ⟨rfl,hn⟩ | ⟨rfl,E,hLE,rfl,hEi,hME⟩
   .
    have HF:=Zz hn;clear hn;go_wp2;go_ret2;exact ⟨⟨none,HF.o,rfl⟩,a0.o⟩
   rcases f4.o with ⟨rfl,hn⟩ | ⟨rfl,l,hn,rfl,hMl⟩
   .
    have HF:=Zz (dec_none_nums e_.o m_.o (by rw [<- b3.o,<- u_.o,<- e2.o];exact hn));clear hn;go_wp2;go_ret2;exact ⟨⟨none,HF.o,rfl⟩,a0.o⟩
   obtain ⟨I,rfl,c5⟩:∃ I,l = nums I/\I.length = c_:=⟨threes l,(nums_threes c_ l (by rw [((hn l).1 rfl).1,u_.o])).1.symm,(nums_threes c_ l (by rw [((hn l).1 rfl).1,u_.o])).2⟩;have p_:I.length <= 100:=by omega
   have e0:Hid (ReadsN (s2.2.drop 2) (3 * cntB s2.2) (Lib.bitLen L.length) (some (nums I))):=Zz (by rw [<- b3.o,<- u_.o,<- e2.o];exact hn);have e9:=Zz hLE;have h7:E.length <= 300:=by have h:=congrArg List.length hLE;rw [List.length_map] at h;omega
   have d8:=Zz (RefTrip.reftrip_calls I E p_ hEi h7 h9 A9 f9 c9 w6 (HE.o.below a0.o) hMl (Kd.M_below (Kd.M_bound hME) h6.o |> termK.sl.mono (ok':=fun _=>True) (fun _ _ _=>trivial)));have j3:=Zz c5;clear hn hLE hEi hME hMl HT f4 c5;go_wp2_with fail;refine d8.o.mono ?_;rintro e w7 ⟨b_,d6⟩;have f7:=Zz (bel_step a0.o d6);clear d6 d8;rcases b_ with ⟨hno,rfl⟩ | ⟨T,A13,c13,hMk,hV,rfl,hMT⟩
   .
    have HF:=Zz (dec_none_makes e_.o m_.o e0.o (by rw [e9.o];exact hno));clear hno;dsimp only;go_wp2;go_ret2;exact ⟨⟨none,HF.o,rfl⟩,f7.o⟩
   have f_:T.length <= 100:=by have h:=hMk.1;omega
   have HV:=Zz hV;have g0:Hid (Makes L I T):=Zz (by rw [e9.o];exact hMk);have d0:=Zz (SortW.refsort_calls T A13 c13 w7 (Kd.M_bound hMT) (fun x hx=>(Parse.valid_small (hV x hx)).1) (by omega));clear hMk hV hMT;dsimp only;go_wp2_with fail;refine d0.o.mono ?_;rintro e w8 ⟨g9,i1,rfl,f6,c0⟩;have h3:=Zz (bel_step f7.o c0);have e1:Hid (Valid (sortT T)):=Zz (ParseOk.sortT_valid HV.o);have c8:(sortT T).length <= 100:=Zh (ParseOk.sortT_len T) f_;have f0:=Zz (RefOf.of_calls (sortT T) e1.o c8 g9 i1 w8 f6);clear f6 c0 d0;go_wp2_with fail;refine f0.o.mono ?_;rintro e w9 ⟨⟨gR,rfl,e5⟩,d7⟩;have a6:=Zz (bel_step h3.o d7);have c7:=Zz e5;have e3:=Zz (fun W (hW:Below w9.heap.size w9 W)=>RefEnc.refenc_calls (sortT T) e1.o c8 gR W _ (Alike.ref_below c7.o hW));obtain ⟨X,hX⟩:∃ X,X = encT (sortT T):=⟨_,rfl⟩;have HX:=Zz hX;rw [<- hX] at e3;have o_:=Zz (fun W (hW:Below w.heap.size w W)=>SCommon.conv_row (byteK.sl.mono (ok':=fun _=>True) (fun _ _ _=>trivial) HM.o) hW);have tX:=mkS_toList X;have tb:=mkS_toList b;clear e5 d7 f0 hX;have a_:Below w9.heap.size w9 w9.drew:=bel_drew (bR _ _);have hS:=o_.o w9.drew (bel_step a6.o a_);go_upto_region 16 with fail
   refine HeldZ.region (fun W=>(convert 55 9 (.slice A b.length c)).run Tryz.prog W = .ok (.string (mkS b)) W) 5 6 #[false,false,false,false,false,false] (by kernel_rfl) rfl rfl ?_;intro hinv;refine HeldZ.tk 0 hinv hS ?_;clear hinv;intro hinv
   try simp only [Act.put,Zs,HeldZ.sm] at hinv |-
   refine HeldZ.tk 3 hinv hS ?_;clear hinv;intro hinv
   try simp only [Act.put,Zs,HeldZ.sm] at hinv |-
   refine HeldZ.tk 4 hinv hS ?_;clear hinv;intro hinv
   try simp only [Act.put,Zs,HeldZ.sm] at hinv |-
   refine HeldZ.ow 1 hinv ?_;clear hinv;intro hinv K hK;go_simp;refine (e3.o _ a_).mono ?_;rintro e f3 ⟨⟨va,rfl,a1⟩,d3⟩;have a3:=Zz (Kd.own_sl (ok:=fun _=>True) (ok':=fun _=>True) a1 (fun _ _=>trivial) (fun _ _=>trivial));obtain ⟨Aa,ca,rfl,_,_⟩:=Kd.own_slice a1;have j5:=SCommon.conv_row a3.o (bR _ _);have a_:Below w9.heap.size w9 f3:=bel_step (by assumption) d3;clear hS;have hS:=o_.o f3 (bel_step a6.o a_);clear a1 d3;refine hK _ _ (fun _=>hS) ?_;clear hK K
   try simp only [Act.put,Zs,HeldZ.sm] at hinv |-
   refine HeldZ.ow 2 hinv ?_;clear hinv;intro hinv K hK;go_simp;refine hK _ _ (fun _=>hS) ?_;clear hK K
   try simp only [Act.put,Zs,HeldZ.sm] at hinv |-
   have l_:=Zz (bel_step a6.o a_);have a2:=Zz (Alike.ref_below c7.o a_);clear a_;by_cases hxb:X = b
   .
    subst hxb;have hq:(X == X) = true:=by simp
    have HF:=Zz (dec_some HV.o f_ HX.o.symm);refine HeldZ.oneW 5 hinv (by kernel_rfl) rfl (by rfl) ?_;clear hinv;intro _ K hK;go_simp;refine hK _ _ (fun h=>absurd rfl h) ?_;refine HeldZ.done (by kernel_rfl) ?_ _;clear hK K hS;go_wp2;go_ret2;exact ⟨⟨some (sortT T),HF.o,gR,rfl,a2.o⟩,l_.o⟩
   .
    have hq:(X == b) = false:=by simpa using hxb
    have HF:=Zz (dec_none_eq e_.o m_.o e0.o g0.o (by rw [<- HX.o];exact hxb));clear hxb;refine HeldZ.oneW 5 hinv (by kernel_rfl) rfl (by rfl) ?_;clear hinv;intro _ K hK;go_simp;refine hK _ _ (fun h=>absurd rfl h) ?_;refine HeldZ.done (by kernel_rfl) ?_ _;clear hK K hS;go_wp2;go_ret2;exact ⟨⟨none,HF.o,rfl⟩,l_.o⟩
end RefDec
namespace SDec
open Go.RowKit Go.Lib B Rd TermPure LinesPure Tri SortP OrdG StoreW StoreP Env RefOf Go.Proofs.YtnplommdgfgboaaGreatDoor.Alike
theorem any_b:∀ (w:World) (ok ok':Nat -> Prop) (x:UInt8) (cs:List Value),byteK.M w ok x cs -> byteK.M w ok' x cs:=fun _ _ _ _ _ h=>h
theorem info_b:(Tryz.prog.info? 5).map (fun i=>(i.zero,i.size,i.bytes)) = some (some (.int .u8 0),1,1):=by kernel_rfl
theorem walk0 (w:World) (he:Env w) (b:List UInt8) (A:Option Addr) (c:Nat) (HL:byteK.sl.M w (fun k=>k < w.heap.size) b [.slice A b.length c]) :
  Calls Tryz.prog 10 #[.slice A b.length c] w fun e w'=>e = .returned (.bool true)/\Below w.heap.size w w':=by
 have HE:=Zz he;have HM:Hid (∀ W,Below w.heap.size w W -> byteK.sl.M W (fun _=>True) b [.slice A b.length c]):=Zz (fun W hb=>byteK.sl.mono (fun _ _ _=>trivial) (Kd.M_below HL hb));clear HL he;by_cases hbig:20000 < b.length
 .
  have hd:decide ((b.length:Int) > 20000) = true:=dT (by omega);have a0:decide ((20000:Int) < (b.length:Int)) = true:=dT (by omega);go_enter func10,ntmps10;go_wp2;go_ret;exact ⟨rfl,bR _ _⟩
 have hd:decide ((b.length:Int) > 20000) = false:=dF (by omega);have a0:decide ((20000:Int) < (b.length:Int)) = false:=dF (by omega);have a2:b.length <= 20000:=by omega
 have b0:Below w.heap.size w (w.alloc (.cells #[] 5)):=bel_alloc (bR _ _) _;have u_:Hid (byteK.own 5 (w.alloc (.cells #[] 5)) w.heap.size (fun _=>True) (.slice (some ⟨w.heap.size,0,none⟩) 0 0) []):=
  Zz (Kd.own_block (cells:=[]) (xs:=[]) (lR _) (Kd.heap_new _ _) rfl (by simp) (fun i x h=>by simp at h))
 have s_:=Zz (HM.o _ b0);have e_:=Zz (fun W (hW:Below w.heap.size w W)=>RefDec.refdec_calls b (by omega) A c W (HE.o.below hW) (HM.o W hW));go_enter func10,ntmps10;go_wp2_with (at_builtin;refine Kd.own_app byteK w.heap.size rfl (.tmp 11) (.tmp 12) 55 5 (.int .u8 0) 1 rfl underlying55 info_b rfl (by decide) _ [] b A c (fun _=>True) rfl rfl u_.o (.inr ⟨s_.o,any_b⟩) b0 (by simp) (by simp;omega) ?_;intro v5 w5 ho5 hb5 hg5 hv5;clear hg5 hv5;rw [Zf] at ho5;have a4:=Zz (Kd.own_sl (ok':=fun _=>True) ho5 (fun _ _=>trivial) (fun _ _=>trivial));obtain ⟨A5,c5,rfl,_,_⟩:=Kd.own_slice ho5;have q_:=Zz hb5;clear ho5 hb5)
 refine (DecW.dec_calls b (by omega) A5 c5 w5 (HE.o.below q_.o) a4.o).mono ?_;rintro e w6 ⟨⟨r,hr,hm⟩,n_⟩;have p_:=Zz (bel_step q_.o n_);have a3:=Zz n_;have HD:=Zz hr;have i_:=Zz (e_.o w6 p_.o);clear n_ hr e_ s_ u_ b0;cases r with
 | none =>
  dsimp only at hm;subst hm;dsimp only;go_wp2_with fail;refine i_.o.mono ?_;rintro e w7 ⟨⟨r2,d_,k_⟩,c_⟩;obtain rfl:r2 = none:=d_.unique HD.o;dsimp only at k_;subst k_;have g_:=Zz (bel_step p_.o c_);clear c_ d_ i_;dsimp only;have a_:Below w.heap.size w w7.drew:=bel_drew g_.o;have HK:=Zz (fun W (hW:Below w.heap.size w W)=>Known11.known_calls W (HE.o.below hW));have hS:True:=trivial;go_upto_region 7 with fail
  refine HeldZ.region (fun W=>True) 18 19 #[false,false,false,false,false,false,false,false,false,false,false,false,false,false,false,false,false,false,false] (by kernel_rfl) rfl rfl ?_;intro hinv;refine HeldZ.tk 0 hinv hS ?_;clear hinv;intro hinv
  try simp only [Act.put,Zs,HeldZ.sm] at hinv |-
  refine HeldZ.tk 1 hinv hS ?_;clear hinv;intro hinv
  try simp only [Act.put,Zs,HeldZ.sm] at hinv |-
  refine HeldZ.tk 2 hinv hS ?_;clear hinv;intro hinv
  try simp only [Act.put,Zs,HeldZ.sm] at hinv |-
  refine HeldZ.take (v:=undef) 3 hinv rfl (by kernel_rfl) (by kernel_rfl) (by decide) (by decide) (by kernel_rfl) (by kernel_rfl) (by kernel_rfl) (fun _ _ _ h=>h) hS (Or.inr ⟨by rfl,rfl⟩) ?_;clear hinv;intro hinv
  try simp only [Act.put,Zs,HeldZ.sm] at hinv |-
  refine HeldZ.take (v:=undef) 4 hinv rfl (by kernel_rfl) (by kernel_rfl) (by decide) (by decide) (by kernel_rfl) (by kernel_rfl) (by kernel_rfl) (fun _ _ _ h=>h) hS (Or.inr ⟨by rfl,rfl⟩) ?_;clear hinv;intro hinv
  try simp only [Act.put,Zs,HeldZ.sm] at hinv |-
  refine HeldZ.take (v:=undef) 5 hinv rfl (by kernel_rfl) (by kernel_rfl) (by decide) (by decide) (by kernel_rfl) (by kernel_rfl) (by kernel_rfl) (fun _ _ _ h=>h) hS (Or.inr ⟨by rfl,rfl⟩) ?_;clear hinv;intro hinv
  try simp only [Act.put,Zs,HeldZ.sm] at hinv |-
  refine HeldZ.take (v:=undef) 6 hinv rfl (by kernel_rfl) (by kernel_rfl) (by decide) (by decide) (by kernel_rfl) (by kernel_rfl) (by kernel_rfl) (fun _ _ _ h=>h) hS (Or.inr ⟨by rfl,rfl⟩) ?_;clear hinv;intro hinv
  try simp only [Act.put,Zs,HeldZ.sm] at hinv |-
  refine HeldZ.take (v:=undef) 7 hinv rfl (by kernel_rfl) (by kernel_rfl) (by decide) (by decide) (by kernel_rfl) (by kernel_rfl) (by kernel_rfl) (fun _ _ _ h=>h) hS (Or.inr ⟨by rfl,rfl⟩) ?_;clear hinv;intro hinv
  try simp only [Act.put,Zs,HeldZ.sm] at hinv |-
  refine HeldZ.take (v:=undef) 8 hinv rfl (by kernel_rfl) (by kernel_rfl) (by decide) (by decide) (by kernel_rfl) (by kernel_rfl) (by kernel_rfl) (fun _ _ _ h=>h) hS (Or.inr ⟨by rfl,rfl⟩) ?_;clear hinv;intro hinv
  try simp only [Act.put,Zs,HeldZ.sm] at hinv |-
  refine HeldZ.take (v:=undef) 9 hinv rfl (by kernel_rfl) (by kernel_rfl) (by decide) (by decide) (by kernel_rfl) (by kernel_rfl) (by kernel_rfl) (fun _ _ _ h=>h) hS (Or.inr ⟨by rfl,rfl⟩) ?_;clear hinv;intro hinv
  try simp only [Act.put,Zs,HeldZ.sm] at hinv |-
  refine HeldZ.take (v:=undef) 10 hinv rfl (by kernel_rfl) (by kernel_rfl) (by decide) (by decide) (by kernel_rfl) (by kernel_rfl) (by kernel_rfl) (fun _ _ _ h=>h) hS (Or.inr ⟨by rfl,rfl⟩) ?_;clear hinv;intro hinv
  try simp only [Act.put,Zs,HeldZ.sm] at hinv |-
  refine HeldZ.take (v:=undef) 11 hinv rfl (by kernel_rfl) (by kernel_rfl) (by decide) (by decide) (by kernel_rfl) (by kernel_rfl) (by kernel_rfl) (fun _ _ _ h=>h) hS (Or.inr ⟨by rfl,rfl⟩) ?_;clear hinv;intro hinv
  try simp only [Act.put,Zs,HeldZ.sm] at hinv |-
  refine HeldZ.take (v:=undef) 12 hinv rfl (by kernel_rfl) (by kernel_rfl) (by decide) (by decide) (by kernel_rfl) (by kernel_rfl) (by kernel_rfl) (fun _ _ _ h=>h) hS (Or.inr ⟨by rfl,rfl⟩) ?_;clear hinv;intro hinv
  try simp only [Act.put,Zs,HeldZ.sm] at hinv |-
  refine HeldZ.take (v:=undef) 13 hinv rfl (by kernel_rfl) (by kernel_rfl) (by decide) (by decide) (by kernel_rfl) (by kernel_rfl) (by kernel_rfl) (fun _ _ _ h=>h) hS (Or.inr ⟨by rfl,rfl⟩) ?_;clear hinv;intro hinv
  try simp only [Act.put,Zs,HeldZ.sm] at hinv |-
  refine HeldZ.tk 14 hinv hS ?_;clear hinv;intro hinv
  try simp only [Act.put,Zs,HeldZ.sm] at hinv |-
  refine HeldZ.tk 15 hinv hS ?_;clear hinv;intro hinv
  try simp only [Act.put,Zs,HeldZ.sm] at hinv |-
  refine HeldZ.ow 16 hinv ?_;clear hinv;intro hinv K hK;go_simp;refine (HK.o _ a_).mono ?_;rintro e w9 ⟨rfl,b_⟩;have a_:Below w.heap.size w w9:=bel_step (by assumption) b_;clear b_;refine hK _ _ (fun _=>hS) ?_;clear hK K
  try simp only [Act.put,Zs,HeldZ.sm] at hinv |-
  refine HeldZ.tk 17 hinv hS ?_;clear hinv;intro hinv
  try simp only [Act.put,Zs,HeldZ.sm] at hinv |-
  have l_:=Zz a_;clear a_;refine HeldZ.oneW 18 hinv (by kernel_rfl) rfl (by rfl) ?_;clear hinv;intro _ K hK;go_simp;refine hK _ _ (fun h=>absurd rfl h) ?_;refine HeldZ.done (by kernel_rfl) ?_ _;clear hK K hS;go_wp2;go_ret;exact ⟨rfl,l_.o⟩
 | some T =>
  obtain ⟨ga,rfl,r_⟩:=hm;have f_:=Zz ((HD.o T).1 rfl);have w_:=Zz r_;clear r_;dsimp only;go_wp2_with fail;refine i_.o.mono ?_;rintro e w7 ⟨⟨r2,d_,k_⟩,c_⟩;obtain rfl:r2 = some T:=d_.unique HD.o;obtain ⟨gb,rfl,v_⟩:=k_;have g_:=Zz (bel_step p_.o c_);have h_:=Zz (w_.o.below c_);have m_:=Zz v_;have a1:=Zz (fun W (hW:Below w7.heap.size w7 W)=>alike_calls T f_.o.1 f_.o.2.2.1 ga gb W (h_.o.below hW) (ref_below m_.o hW));have t_:=Zz (fun W (hW:Below w7.heap.size w7 W)=>Encode.encode_calls T f_.o.1 f_.o.2.2.1 ga W _ (h_.o.below hW));rw [f_.o.2.2.2] at t_;have j_:=Zz (fun W (hW:Below w7.heap.size w7 W)=>SCommon.conv_row (HM.o w7 g_.o) hW);clear c_ d_ i_ v_ w_;dsimp only;have a_:Below w7.heap.size w7 w7.drew:=bel_drew (bR _ _);have HK:=Zz (fun W (hW:Below w7.heap.size w7 W)=>Known11.known_calls W (HE.o.below (bel_step g_.o hW)));have hS:=j_.o w7.drew a_;have tb:=mkS_toList b;have hq:(b == b) = true:=by simp
  go_upto_region 7 with fail
  refine HeldZ.region (fun W=>(convert 55 9 (.slice A b.length c)).run Tryz.prog W = .ok (.string (mkS b)) W) 18 19 #[false,false,false,false,false,false,false,false,false,false,false,false,false,false,false,false,false,false,false] (by kernel_rfl) rfl rfl ?_;intro hinv;refine HeldZ.tk 0 hinv hS ?_;clear hinv;intro hinv
  try simp only [Act.put,Zs,HeldZ.sm] at hinv |-
  refine HeldZ.tk 1 hinv hS ?_;clear hinv;intro hinv
  try simp only [Act.put,Zs,HeldZ.sm] at hinv |-
  refine HeldZ.tk 2 hinv hS ?_;clear hinv;intro hinv
  try simp only [Act.put,Zs,HeldZ.sm] at hinv |-
  refine HeldZ.tk 3 hinv hS ?_;clear hinv;intro hinv
  try simp only [Act.put,Zs,HeldZ.sm] at hinv |-
  refine HeldZ.tk 4 hinv hS ?_;clear hinv;intro hinv
  try simp only [Act.put,Zs,HeldZ.sm] at hinv |-
  refine HeldZ.ow 5 hinv ?_;clear hinv;intro hinv K hK;go_simp;refine (a1.o _ a_).mono ?_;rintro e w8 ⟨rfl,b_⟩;have a_:Below w7.heap.size w7 w8:=bel_step (by assumption) b_;clear hS;have hS:=j_.o w8 a_;clear b_;refine hK _ _ (fun _=>hS) ?_;clear hK K
  try simp only [Act.put,Zs,HeldZ.sm] at hinv |-
  refine HeldZ.tk 6 hinv hS ?_;clear hinv;intro hinv
  try simp only [Act.put,Zs,HeldZ.sm] at hinv |-
  refine HeldZ.tk 7 hinv hS ?_;clear hinv;intro hinv
  try simp only [Act.put,Zs,HeldZ.sm] at hinv |-
  refine HeldZ.tk 10 hinv hS ?_;clear hinv;intro hinv
  try simp only [Act.put,Zs,HeldZ.sm] at hinv |-
  refine HeldZ.tk 11 hinv hS ?_;clear hinv;intro hinv
  try simp only [Act.put,Zs,HeldZ.sm] at hinv |-
  refine HeldZ.ow 8 hinv ?_;clear hinv;intro hinv K hK;go_simp;refine (t_.o _ a_).mono ?_;rintro e y_ ⟨⟨va,rfl,o_⟩,b_⟩;have z_:=Zz (Kd.own_sl (ok:=fun _=>True) (ok':=fun _=>True) o_ (fun _ _=>trivial) (fun _ _=>trivial));obtain ⟨Aa,ca,rfl,_,_⟩:=Kd.own_slice o_;have a5:=SCommon.conv_row z_.o (bR _ _);have a_:Below w7.heap.size w7 y_:=bel_step (by assumption) b_;clear hS;have hS:=j_.o y_ a_;clear o_ b_;refine hK _ _ (fun _=>hS) ?_;clear hK K
  try simp only [Act.put,Zs,HeldZ.sm] at hinv |-
  refine HeldZ.ow 9 hinv ?_;clear hinv;intro hinv K hK;go_simp;refine hK _ _ (fun _=>hS) ?_;clear hK K
  try simp only [Act.put,Zs,HeldZ.sm] at hinv |-
  refine HeldZ.tk 12 hinv hS ?_;clear hinv;intro hinv
  try simp only [Act.put,Zs,HeldZ.sm] at hinv |-
  refine HeldZ.tk 13 hinv hS ?_;clear hinv;intro hinv
  try simp only [Act.put,Zs,HeldZ.sm] at hinv |-
  refine HeldZ.tk 14 hinv hS ?_;clear hinv;intro hinv
  try simp only [Act.put,Zs,HeldZ.sm] at hinv |-
  refine HeldZ.tk 15 hinv hS ?_;clear hinv;intro hinv
  try simp only [Act.put,Zs,HeldZ.sm] at hinv |-
  refine HeldZ.ow 16 hinv ?_;clear hinv;intro hinv K hK;go_simp;refine (HK.o _ a_).mono ?_;rintro e x_ ⟨rfl,b_⟩;have a_:Below w7.heap.size w7 x_:=bel_step (by assumption) b_;clear hS;have hS:=j_.o x_ a_;clear b_;refine hK _ _ (fun _=>hS) ?_;clear hK K
  try simp only [Act.put,Zs,HeldZ.sm] at hinv |-
  refine HeldZ.tk 17 hinv hS ?_;clear hinv;intro hinv
  try simp only [Act.put,Zs,HeldZ.sm] at hinv |-
  have l_:=Zz (bel_step g_.o a_);clear a_;refine HeldZ.oneW 18 hinv (by kernel_rfl) rfl (by rfl) ?_;clear hinv;intro _ K hK;go_simp;refine hK _ _ (fun h=>absurd rfl h) ?_;refine HeldZ.done (by kernel_rfl) ?_ _;clear hK K hS;go_wp2;go_ret;exact ⟨rfl,l_.o⟩
theorem walk (w:World) (he:Env w) (b:List UInt8) (v:Value) (m:byteK.sl.M w (fun _=>True) b [v]) :
  Calls Tryz.prog 10 #[v] w fun e w'=>e = .returned (.bool true)/\Below w.heap.size w w':=by
 obtain ⟨A,c,hv,h⟩:=id m;obtain rfl:v = .slice A b.length c:=by simpa using hv
 exact walk0 w he b A c (byteK.sl.mono (fun k _ hk=>hk) m)
end SDec
end Go.Proofs.YtnplommdgfgboaaGreatDoor
