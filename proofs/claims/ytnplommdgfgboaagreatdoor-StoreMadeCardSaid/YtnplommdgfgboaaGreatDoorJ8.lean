/-
  Texts of the claim, one behind the other: PutE, RefOf, RefID, RefOfW, Ref2, Ref6, Ref8, BoxRefX, RefEnc, RingC, TermAt.
-/
import Derived.Test.YtnplommdgfgboaaGreatDoorJ7
import Derived.ChangeKeysEq
import Derived.Deep.RegionHeld3
set_option linter.unusedVariables false
set_option linter.unusedSimpArgs false
set_option maxHeartbeats 25600000
set_option maxRecDepth 100000
open Go.Proofs.Tryz
namespace Go.Proofs.YtnplommdgfgboaaGreatDoor
namespace HeldZ
open Go
section
variable {P : Program} {ops : Array Oper} {md : Region.Mode} {Q : Exit → Act → World → Prop} {S : World → Prop} {z : Nat}
theorem tk (i : Nat) {oi : Oper} {v : Value} {fuel : Nat} {listed : Array Bool} {a : Act} {w : World} (inv : HeadInv md ops z listed) (hS : S w)
    (h : HeadInv md ops z (listed.setIfInBounds i true) → wpAnyZ P md ops Q S z fuel (listed.setIfInBounds i true) (a.put oi.dst v) w)
    (hi : ops[i]? = some oi := by rfl) (hsk : Region.sinkB md ops z = true := by kernel_rfl) (hc : Region.chainB md ops z = true := by kernel_rfl) (hn : z < ops.size := by decide) (hiz : i < z := by decide)
    (hs : Region.noSelect ops = true := by kernel_rfl) (hf : Region.free md ops listed i = true := by kernel_rfl) (hr : (Region.ready md ops listed).contains i = true := by kernel_rfl)
    (hw : Region.wanted oi (yielded ops a.tmps) = true := by rfl)
    (hy : ∀ w, S w → (execOp a.eval oi).run P w = .ok (.value v) w := by intro w hSw; (try dsimp only at hSw); go_simp; try with_reducible rfl)
    (hQ : ∀ c a w, Q (.panic c) (a.put oi.dst v) w → Q (.panic c) a w := by exact fun _ _ _ h => h) : wpAnyZ P md ops Q S z (fuel + 1) listed a w :=
  take i inv hi hsk hc hn hiz hs hf hr hQ hS (.inl ⟨hw, hy⟩) h
theorem ow (i : Nat) {o : Oper} {fuel : Nat} {listed : Array Bool} {a : Act} {w : World} (inv : HeadInv md ops z listed)
    (h : HeadInv md ops z (listed.setIfInBounds i true) → ∀ K : Act → World → Prop, (∀ a' w', (i ≠ z → S w') → wpAnyZ P md ops Q S z fuel (listed.setIfInBounds i true) a' w' → K a' w') → o.wp P a w K Q)
    (hi : ops[i]? = some o := by rfl) (hr : Region.ready md ops listed = [i] := by kernel_rfl) (hw : Region.wanted o (yielded ops a.tmps) = true := by rfl) (hz : i < z := by decide) : wpAnyZ P md ops Q S z (fuel + 1) listed a w :=
  oneW i inv hr hi hw fun h1 K h2 => h (h1 hz) K h2
theorem sm {α : Type} : (∀ (l : List α) (i : Nat) (a : α), l.toArray.setIfInBounds i a = (l.set i a).toArray) ∧ (∀ (a b : α) (l : List α), (a :: l).set 0 b = b :: l) ∧ (∀ (a b : α) (l : List α) (n : Nat), (a :: l).set (n + 1) b = a :: l.set n b) :=
  ⟨fun l i a => by simp, fun a b l => rfl, fun a b l n => rfl⟩
end
end HeldZ
namespace PutE
open Go.RowKit Go.Lib B Rd TermPure LinesPure Tri SortP OrdG TermW Cmp Search Clones
def putL (l:List Term) (t:Term):List Term:=putE (fun a b=>decide (ltTm a b)) l t
theorem cellsE:(Tryz.prog).cellsOf 24 = termK.sz:=by kernel_rfl
theorem three {w:World} {g:Nat} {t:Term} (h:C3 w g 0 t):w.cell? ⟨g,0,none⟩ = some (.int .i64 t.kind)/\w.cell? ⟨g,1,none⟩ = some (.string (mkS t.text))/\w.cell? ⟨g,2,none⟩ = some (.string (mkS t.extra)):=by
 obtain ⟨c0,c1,c2⟩:=h;simp only [Nat.zero_add] at *;exact ⟨c0,c1,c2⟩
theorem row_of {w1:World} {g:Nat} {t:Term} (ht:FitsW t) (h:C3 w1 g 0 t):termK.sl.M w1 (fun _=>True) [t] [.slice (some ⟨g,0,none⟩) 1 1]:=by
 refine ⟨some ⟨g,0,none⟩,1,rfl,lR _,⟨by simp,by unfold maxLen;omega⟩,fun h=>(by cases h),fun i x hx=>?_⟩;cases i with
 | zero =>
  simp at hx;subst hx;refine ⟨_,termL t,rfl,trivial,⟨rfl,ht⟩,fun j u hu=>?_⟩;rw [Nat.zero_mul,Nat.zero_add,add_plain];obtain ⟨c0,c1,c2⟩:=h;have hj:j < 3:=(List.getElem?_eq_some_iff.1 hu).1
  match j,hj with
  | 0,_=>cases hu;exact c0
  | 1,_=>cases hu;exact c1
  | 2,_=>cases hu;exact c2
 | succ i=>simp at hx
theorem one_row (w:World) (t:Term) (ht:FitsW t):termK.sl.M (w.alloc (.cells (termL t).toArray 24)) (fun _=>True) [t] [.slice (some ⟨w.heap.size,0,none⟩) 1 1]:=row_of ht (C3.new w t)
theorem one_grown {W w1:World} {g:Nat} {r:Option Nat} {t:Term} (ht:FitsW t) (h:C3 W g 0 t) (hg:W.grownBy w1 r) (hne:some g ≠ r):termK.sl.M w1 (fun _=>True) [t] [.slice (some ⟨g,0,none⟩) 1 1]:=
 row_of ht (h.moved (hg.block g h.lt hne))
theorem own0_1 (w:World):termK.own 24 (w.alloc (.cells #[] 24)) w.heap.size TT (.slice (some ⟨w.heap.size,0,none⟩) 0 0) []:=
 Kd.own_block (cells:=[]) (xs:=[]) (lR _) (Kd.heap_new _ _) rfl (by simp) (fun i x h=>by simp at h)
theorem own0_2 (w:World) (o:Obj):termK.own 24 ((w.alloc o).alloc (.cells #[] 24)) w.heap.size TT (.slice (some ⟨w.heap.size + 1,0,none⟩) 0 0) []:=by
 have h:=own0_1 (w.alloc o);rw [show (w.alloc o).heap.size = w.heap.size + 1 by simp] at h;exact Kd.own_lower (by omega) h
theorem C3_new1 (w:World) (o:Obj) (t:Term):C3 ((w.alloc o).alloc (.cells (termL t).toArray 24)).drew (w.heap.size + 1) 0 t:=by
 have h:=C3.new (w.alloc o) t;rw [show (w.alloc o).heap.size = w.heap.size + 1 by simp] at h;exact h.moved rfl
theorem C3_new2 (w:World) (t:Term) (o:Obj):C3 ((w.alloc (.cells (termL t).toArray 24)).alloc o).drew w.heap.size 0 t:=
 ((C3.new w t).below (bel_alloc (bR _ _) o)).moved rfl
theorem put_same:∀ (l:List Term) (t:Term) (i:Nat) (hi:i < l.length),(∀ j (h:j < l.length),j < i -> ltTm l[j] t) -> l[i] = t -> putL l t = l
 | [],_,_,h,_,_=>by simp at h
 | x :: l,t,0,_,_,h0=>by
  rw [List.getElem_cons_zero] at h0
  unfold putL
  rw [putE,if_neg (by simp only [decide_eq_true_eq,h0];exact List.lt_irrefl _),if_pos h0]
 | x :: l,t,i + 1,hi,hlt,h0=>by
  have h1:=hlt 0 (by simp) (by omega)
  rw [List.getElem_cons_zero] at h1
  have ih:=put_same l t i (by simpa using hi) (fun j h hj=>by have:=hlt (j + 1) (by simpa using h) (by omega);rw [List.getElem_cons_succ] at this;exact this) (by rw [List.getElem_cons_succ] at h0;exact h0)
  unfold putL at ih |-
  rw [putE,if_pos (dT h1),ih]
theorem put_ins:∀ (l:List Term) (t:Term) (i:Nat),i <= l.length -> (∀ j (h:j < l.length),j < i -> ltTm l[j] t) -> (∀ h:i < l.length,¬ ltTm l[i] t/\l[i] ≠ t) -> putL l t = l.take i ++ [t] ++ l.drop i
 | [],_,i,_,_,_=>by simp [putL,putE]
 | x :: l,t,0,_,_,h0=>by
  have:=h0 (by simp)
  rw [List.getElem_cons_zero] at this
  unfold putL
  rw [putE,if_neg (by simp only [decide_eq_true_eq];exact this.1),if_neg this.2]
  simp
 | x :: l,t,i + 1,hi,hlt,h0=>by
  have h1:=hlt 0 (by simp) (by omega)
  rw [List.getElem_cons_zero] at h1
  have ih:=put_ins l t i (by simpa using hi) (fun j h hj=>by have:=hlt (j + 1) (by simpa using h) (by omega);rw [List.getElem_cons_succ] at this;exact this) (fun h=>by have:=h0 (by simpa using h);rw [List.getElem_cons_succ] at this;exact this)
  unfold putL at ih |-
  rw [putE,if_pos (dT h1),ih]
  simp
theorem put_calls (l:List Term) (t:Term) (A:Option Addr) (c:Nat) (w:World) (ok:Nat -> Prop) (HLo:termK.sl.M w ok l [.slice A l.length c]) (HL:termK.sl.M w (fun k=>k < w.heap.size) l [.slice A l.length c]) (hs:∀ x ∈ l,SmallM x) (hst:SmallM t) (hft:FitsW t) (hb:l.length <= 1000000) :
  Calls Tryz.prog 48 #[.slice A l.length c,Ref5.termV t] w fun e w'=>∃ A' c',e = .returned (.slice A' (putL l t).length c')/\termK.sl.M w' (fun k=>ok k \/ w.heap.size <= k) (putL l t) [.slice A' (putL l t).length c']/\Below w.heap.size w w':=by
 have HLO:=Zz HLo;clear HLo;have HR:=Zz (fun hp=>term_cells HL hp);have HS:=Zz hs;obtain ⟨A',c',he,hlc,⟨hl47,hcm⟩,hA,hrow⟩:=HL;obtain ⟨rfl,rfl⟩:A = A'/\c = c':=by simpa using he
 clear he;have HROW:Hid (termK.row w TT A l):=Zz (Kd.row_mono (fun _ _ _=>trivial) hrow);have HC0:=Zz (C3.new w t);clear hrow hs;unfold Ref5.termV;go_enter func48,ntmps48;go_wp2;go_loopw [5] (fun vi wr=>∃ i:Nat,vi = .int .i64 i/\i <= l.length/\Hid ((∀ j (h:j < l.length),j < i -> ltTm l[j] t)/\Below w.heap.size w wr/\C3 wr w.heap.size 0 t)) (fun vi _=>l.length - (intOf vi).toNat)
 case atStart=>exact ⟨0,rfl,by omega,Zz ⟨fun j h hj=>by omega,bel_alloc (bR _ _) _,HC0.o⟩⟩
 case round =>
  obtain ⟨i,rfl,hiL,HI⟩:=hrel;clear HC0;by_cases hlt:i < l.length
  ·
   have hd:decide (i < l.length) = true:=dT hlt;have ik:(i:Int) < (l.length:Int):=by omega
   obtain ⟨b,off,rfl,_,hbs,hcells⟩:=HR.o (by omega);have hcx:=(hcells i hlt).below HI.o.2.1;have hcy:=HI.o.2.2;obtain ⟨x,hx⟩:∃ x,x = l[i]:=⟨_,rfl⟩;rw [<- hx] at hcx;have HCC:=Zz (fun w=>RefCmp.cmp4_calls x t (by rw [hx];exact HS.o _ (Zm hlt)) hst w);obtain ⟨v,hv⟩:∃ v,v = cmpTm x t:=⟨_,rfl⟩;have hvl:v < 0 ↔ ltTm x t:=by rw [hv];exact cmpTm_lt x t
   rw [<- hv] at HCC;have HQ:=Zz (fun W=>TriEq.run_eq_term x t W);have HNext:Hid (v < 0 -> ∀ j (h:j < l.length),j < i + 1 -> ltTm l[j] t):=Zz (fun h j hj hji=>by
    by_cases e:j = i
    ·
     subst e;rw [<- hx];exact hvl.1 h
    ·
     exact HI.o.1 j hj (by omega))
   have HSame:Hid (x = t -> putL l t = l):=Zz (fun h=>put_same l t i hlt HI.o.1 (by rw [<- hx];exact h));have HIns:Hid (¬ v < 0 -> x ≠ t -> putL l t = l.take i ++ [t] ++ l.drop i):=Zz (fun h h'=>put_ins l t i hiL HI.o.1 (fun h2=>by rw [<- hx];exact ⟨fun h3=>h (hvl.2 h3),h'⟩));have HIW:=Zz HI.o.2;clear hcells hx hv hvl;by_cases hv0:v < 0
   ·
    have hvd:decide (v < 0) = true:=dT hv0;have HNx:=Zz (HNext.o hv0);clear HNext HSame HIns hv0 HQ;obtain ⟨xk,xt,xe⟩:=x;obtain ⟨yk,yt,ye⟩:=t;have x0:=fun p=>(hcx.bel p).c0
    have x1:=fun p=>(hcx.bel p).c1
    have x2:=fun p=>(hcx.bel p).c2
    have y0:=fun p=>(hcy.bel p).c0
    have y1:=fun p=>(hcy.bel p).c1
    have y2:=fun p=>(hcy.bel p).c2
    dsimp only at x0 x1 x2 y0 y1 y2;unfold Ref5.termV at HCC;dsimp only at HCC;go_upto_region 2 with fail
    refine QT.region_all (by kernel_rfl) (by kernel_rfl) ?_
    iterate 10 (go_big_quiet_step (fail))
    go_big_quiet_step (exact QT.Bel.call _ (HCC.o _))
    iterate 2 (go_big_quiet_step (fail))
    refine wpQuiet_nil ?_;intro w2 hw';obtain ⟨⟨_,hb⟩,rfl⟩:=hw';have HW2:Hid (Below w.heap.size w w2/\C3 w2 w.heap.size 0 ⟨yk,yt,ye⟩):=Zz ⟨bel_step HIW.o.1 hb,hcy.below hb⟩;clear hb x0 x1 x2 y0 y1 y2 hcx hcy HI HIW;go_wp2;go_roundw
    case rel=>exact ⟨i + 1,by go_num,by omega,Zz ⟨HNx.o,HW2.o⟩⟩
    case measure=>simp [intOf];omega
   ·
    have hvd:decide (v < 0) = false:=dF hv0;by_cases hxt:x = t
    ·
     have HPut:=Zz (HSame.o hxt);rw [dT hxt] at HQ;clear HNext HSame HIns hv0 hxt;obtain ⟨xk,xt,xe⟩:=x;obtain ⟨yk,yt,ye⟩:=t;have x0:=fun p=>(hcx.bel p).c0
     have x1:=fun p=>(hcx.bel p).c1
     have x2:=fun p=>(hcx.bel p).c2
     have y0:=fun p=>(hcy.bel p).c0
     have y1:=fun p=>(hcy.bel p).c1
     have y2:=fun p=>(hcy.bel p).c2
     dsimp only at x0 x1 x2 y0 y1 y2;unfold Ref5.termV at HCC;dsimp only at HCC;go_upto_region 2 with fail
     refine QT.region_all (by kernel_rfl) (by kernel_rfl) ?_
     iterate 10 (go_big_quiet_step (fail))
     go_big_quiet_step (exact QT.Bel.call _ (HCC.o _))
     iterate 2 (go_big_quiet_step (fail))
     refine wpQuiet_nil ?_;intro w2 hw';obtain ⟨⟨_,hb⟩,rfl⟩:=hw';have HW2:Hid (Below w.heap.size w w2/\C3 w2 w.heap.size 0 ⟨yk,yt,ye⟩):=Zz ⟨bel_step HIW.o.1 hb,hcy.below hb⟩;have hcx:=hcx.below hb;have hcy:=HW2.o.2;clear hb x0 x1 x2 y0 y1 y2 HI HIW;go_wp2;obtain ⟨x0,x1,x2⟩:=id hcx;obtain ⟨y0,y1,y2⟩:=id hcy;simp only [Nat.zero_add] at y1 y2;have hqq:=HQ.o;dsimp only at x0 x1 x2 y0 y1 y2 hqq;go_upto_region 4 with fail
     go_quiet (fail);have HB3:=Zz (bel_drewN HW2.o.1 nq);clear x0 x1 x2 y0 y1 y2 hcx hcy HW2 hqq;go_wp2;go_ret;rw [HPut.o];exact ⟨_,_,rfl,termK.sl.mono (fun k hk _=>.inl hk) (termK.sl.move (fun k _ hlt=>HB3.o.block k hlt) HLO.o),HB3.o⟩
    ·
     have HPut:=Zz (HIns.o hv0 hxt);rw [dF hxt] at HQ;clear HNext HSame HIns hv0 hxt;obtain ⟨xk,xt,xe⟩:=x;obtain ⟨yk,yt,ye⟩:=t;have x0:=fun p=>(hcx.bel p).c0
     have x1:=fun p=>(hcx.bel p).c1
     have x2:=fun p=>(hcx.bel p).c2
     have y0:=fun p=>(hcy.bel p).c0
     have y1:=fun p=>(hcy.bel p).c1
     have y2:=fun p=>(hcy.bel p).c2
     dsimp only at x0 x1 x2 y0 y1 y2;unfold Ref5.termV at HCC;dsimp only at HCC;go_upto_region 2 with fail
     refine QT.region_all (by kernel_rfl) (by kernel_rfl) ?_
     iterate 10 (go_big_quiet_step (fail))
     go_big_quiet_step (exact QT.Bel.call _ (HCC.o _))
     iterate 2 (go_big_quiet_step (fail))
     refine wpQuiet_nil ?_;intro w2 hw';obtain ⟨⟨_,hb⟩,rfl⟩:=hw';have HW2:Hid (Below w.heap.size w w2/\C3 w2 w.heap.size 0 ⟨yk,yt,ye⟩):=Zz ⟨bel_step HIW.o.1 hb,hcy.below hb⟩;have hcx:=hcx.below hb;have hcy:=HW2.o.2;clear hb x0 x1 x2 y0 y1 y2 HI HIW;go_wp2;obtain ⟨x0,x1,x2⟩:=id hcx;obtain ⟨y0,y1,y2⟩:=id hcy;simp only [Nat.zero_add] at y1 y2;have hqq:=HQ.o;dsimp only at x0 x1 x2 y0 y1 y2 hqq;go_upto_region 4 with fail
     go_quiet (fail);have hcz:=hcy.below (bel_drewN (bR _ _) nq);have HB3:=Zz (bel_drewN HW2.o.1 nq);clear x0 x1 x2 y0 y1 y2 hcx hcy HW2 hqq;generalize w2.drewN nq = w3 at *;go_wp2;obtain ⟨A1,-,-,htake,hrow1⟩:=Kd.cut_run (P:=Tryz.prog) termK 31 24 underlying31 cellsE Clones.zero_term 40 Clones.info_term (some ⟨b,off,none⟩) l.length c 0 i (Nat.zero_le _) hiL hlc ⟨hl47,hcm⟩ hA;obtain ⟨A2,-,hdrop,-,hrow2⟩:=Kd.cut_run (P:=Tryz.prog) termK 31 24 underlying31 cellsE Clones.zero_term 40 Clones.info_term (some ⟨b,off,none⟩) l.length c i l.length hiL (lR _) hlc ⟨hl47,hcm⟩ hA;have HQ1:=Zz (hrow1 w TT l rfl HROW.o);have HQ2:=Zz (hrow2 w TT l rfl HROW.o);rw [List.drop_zero] at HQ1;rw [List.take_length] at HQ2;obtain ⟨pre,hpre⟩:∃ pre,pre = l.take i:=⟨_,rfl⟩;obtain ⟨suf,hsuf⟩:∃ suf,suf = l.drop i:=⟨_,rfl⟩;have hpl:pre.length = i:=by rw [hpre,Zi];omega
     have hsl:suf.length = l.length - i:=by rw [hsuf,Zj]
     have hs1:∀ (kh:IntKind) (w:World),(Instr.slice 31 (.slice (some ⟨b,off,none⟩) l.length c) none (some (.int kh (i:Int))) none).run Tryz.prog w = .ok (.slice A1 pre.length c) w:=fun kh w=>by rw [hpl];exact htake kh w rfl
     obtain ⟨c2,hc2⟩:∃ c2,c2 = c - i:=⟨_,rfl⟩;have hs2:∀ (kl:IntKind) (w:World),(Instr.slice 31 (.slice (some ⟨b,off,none⟩) l.length c) (some (.int kl (i:Int))) none none).run Tryz.prog w = .ok (.slice A2 suf.length c2) w:=fun kl w=>by rw [hsl,hc2];exact hdrop kl w rfl
     rw [Nat.sub_zero,Nat.sub_zero,<- hpre,<- hpl] at HQ1;rw [<- hsuf,<- hsl,<- hc2] at HQ2;rw [<- hpre,<- hsuf] at HPut;have hbp:pre.length <= 1000000:=by omega
     have hbs2:suf.length <= 1000000:=by omega
     clear htake hdrop hrow1 hrow2 hpre hsuf hc2;clear hpl hsl;have HZ:=Zz hcz;have hB:=HB3.o;have hY:=bR w3.heap.size w3;obtain ⟨n0,n1,n2⟩:=hcz;simp only [Nat.zero_add] at n1 n2;dsimp only at n0 n1 n2;go_cut [4] (fun v4 wx=>Hid (termK.own 24 wx w3.heap.size TT v4 (pre ++ [⟨yk,yt,ye⟩] ++ suf))/\Hid (Below w.heap.size w wx))
     case first =>
      go_region_held3 (fun w'=>w'.cell? ⟨w.heap.size,0,none⟩ = some (Value.int .i64 yk)/\w'.cell? ⟨w.heap.size,1,none⟩ = some (Value.string (mkS yt))/\w'.cell? ⟨w.heap.size,2,none⟩ = some (Value.string (mkS ye)))
       (exact three (HZ.o.below (by (repeat (first | assumption | exact bR _ _ | refine bel_alloc ?_ _ | refine bel_drew ?_)))))
       (first
        | (refine Kd.own_app_step termK (w0:=w3) w3.heap.size (by rfl) (.tmp 34) (.tmp 37) 31 24 Clones.zero_term 40 (by rfl) underlying31 Clones.info_term rfl (by decide) (.slice (some ⟨w3.heap.size,0,none⟩) 0 0) [] pre A1 c TT (by rfl) (by rfl) ?ho (.inr ⟨?hr,Clones.any_term⟩) ?hb ?hs ?hl ?_;go_loud (case hl=>simp;omega);go_loud (case ho=>first | exact own0_1 _ | exact Kd.own_drew (own0_1 _) | exact Kd.own_drew (Kd.own_alloc (own0_1 _) _) | exact Kd.own_drew (own0_2 _ _));go_loud (case hr=>exact Kd.M_below HQ1.o (by (repeat (first | assumption | exact bR _ _ | refine bel_alloc ?_ _ | refine bel_drew ?_))));go_loud (case hb=>repeat (first | assumption | exact bR _ _ | refine bel_alloc ?_ _ | refine bel_drew ?_));go_loud (case hs=>simp;try omega);intro v1 w1 ho1 hb1 hg1 hv1;go_loud (rw [Zf] at ho1);have HO1:=Zz ho1;clear ho1 hv1)
        | (refine Kd.own_app_step termK (w0:=w3) w3.heap.size (by rfl) (.tmp 34) (.tmp 37) 31 24 Clones.zero_term 40 (by rfl) underlying31 Clones.info_term rfl (by decide) (.slice (some ⟨w3.heap.size + 1,0,none⟩) 0 0) [] pre A1 c TT (by rfl) (by rfl) ?ho (.inr ⟨?hr,Clones.any_term⟩) ?hb ?hs ?hl ?_;go_loud (case hl=>simp;omega);go_loud (case ho=>first | exact own0_1 _ | exact Kd.own_drew (own0_1 _) | exact Kd.own_drew (Kd.own_alloc (own0_1 _) _) | exact Kd.own_drew (own0_2 _ _));go_loud (case hr=>exact Kd.M_below HQ1.o (by (repeat (first | assumption | exact bR _ _ | refine bel_alloc ?_ _ | refine bel_drew ?_))));go_loud (case hb=>repeat (first | assumption | exact bR _ _ | refine bel_alloc ?_ _ | refine bel_drew ?_));go_loud (case hs=>simp;try omega);intro v1 w1 ho1 hb1 hg1 hv1;go_loud (rw [Zf] at ho1);have HO1:=Zz ho1;clear ho1 hv1)
        | (refine Kd.own_app_step termK (w0:=w3) w3.heap.size (by rfl) (.tmp 38) (.tmp 40) 31 24 Clones.zero_term 40 (by rfl) underlying31 Clones.info_term rfl (by decide) v1 pre [⟨yk,yt,ye⟩] _ 1 TT (by rfl) (by rfl) ?ho (.inr ⟨?hr,Clones.any_term⟩) ?hb ?hs ?hl ?_;go_loud (case hl=>simp;omega);go_loud (case ho=>repeat (first | exact HO1.o | refine Kd.own_drew ?_ | refine Kd.own_alloc ?_ _));go_loud (case hr=>first | exact one_row _ ⟨yk,yt,ye⟩ hft | (refine one_grown hft ?_ hg1 ?_;(first | exact C3_new1 _ _ ⟨yk,yt,ye⟩ | exact C3_new2 _ ⟨yk,yt,ye⟩ _);(simp [Value.ownBlock])));go_loud (case hb=>repeat (first | assumption | exact bR _ _ | refine bel_alloc ?_ _ | refine bel_drew ?_));go_loud (case hs=>have:=hb1.size;first | omega | (simp;omega));intro v2 w4 ho2 hb2 hg2 hv2;have HO2:=Zz ho2;clear ho2 hg2 hv2)
        | (refine Kd.own_app_step termK (w0:=w3) w3.heap.size (by rfl) (.tmp 41) (.tmp 44) 31 24 Clones.zero_term 40 (by rfl) underlying31 Clones.info_term rfl (by decide) v2 (pre ++ [⟨yk,yt,ye⟩]) suf A2 c2 TT (by rfl) (by rfl) ?ho (.inr ⟨?hr,Clones.any_term⟩) ?hb ?hs ?hl ?_;go_loud (case hl=>simp;omega);go_loud (case ho=>repeat (first | exact HO2.o | refine Kd.own_drew ?_ | refine Kd.own_alloc ?_ _));go_loud (case hr=>exact Kd.M_below HQ2.o (bel_step hB (by (repeat (first | assumption | exact bR _ _ | refine bel_alloc ?_ _ | refine bel_drew ?_)))));go_loud (case hb=>repeat (first | assumption | exact bR _ _ | refine bel_alloc ?_ _ | refine bel_drew ?_));go_loud (case hs=>have:=hb2.size;first | omega | (simp;omega));intro v3 w5 ho3 hb3 hg3 hv3;have HO3:=Zz ho3;clear ho3 hg3 hv3)
        | fail)
      all_goals (go_wp2_with fail;go_meet;exact ⟨HO3,Zz (bel_step hB hb3)⟩)
     case rest =>
      obtain ⟨HO,HB6⟩:=hcut;obtain ⟨A9,c9,rfl,_,_⟩:=Kd.own_slice HO.o;have HM9:=Zz (Kd.own_sl (ok':=fun k=>ok k \/ w.heap.size <= k) (StoreW.own_any (ok':=fun _=>False) Clones.any_term HO.o) (fun k hk=>.inr (Zh HB3.o.size hk)) (fun k hk=>False.elim hk));rw [<- HPut.o] at HM9;rw [<- HPut.o];clear HO;go_wp2;go_ret;exact ⟨_,_,rfl,HM9.o,HB6.o⟩
  ·
   have hd:decide (i < l.length) = false:=dF hlt;have HPut:Hid (putL l t = l.take i ++ [t] ++ l.drop i):=Zz (put_ins l t i hiL HI.o.1 (fun h=>absurd h hlt));have HIW:=Zz HI.o.2;clear HI hlt;obtain ⟨yk,yt,ye⟩:=t;go_upto_region 2 with fail
   go_quiet (fail);go_wp2;go_upto_region 4 with fail
   go_quiet (fail);go_upto_region 6 with fail
   generalize hwy:World.drewN _ _ = w3 at *;have HB3:Hid (Below w.heap.size w w3):=Zz (by subst hwy;exact bel_drewN (bel_drewN HIW.o.1 _) _);have hcz:C3 w3 w.heap.size 0 ⟨yk,yt,ye⟩:=by subst hwy;exact HIW.o.2.moved rfl
   clear hwy HIW;obtain ⟨A1,-,-,htake,hrow1⟩:=Kd.cut_run (P:=Tryz.prog) termK 31 24 underlying31 cellsE Clones.zero_term 40 Clones.info_term (A) l.length c 0 i (Nat.zero_le _) hiL hlc ⟨hl47,hcm⟩ hA;obtain ⟨A2,-,hdrop,-,hrow2⟩:=Kd.cut_run (P:=Tryz.prog) termK 31 24 underlying31 cellsE Clones.zero_term 40 Clones.info_term (A) l.length c i l.length hiL (lR _) hlc ⟨hl47,hcm⟩ hA;have HQ1:=Zz (hrow1 w TT l rfl HROW.o);have HQ2:=Zz (hrow2 w TT l rfl HROW.o);rw [List.drop_zero] at HQ1;rw [List.take_length] at HQ2;obtain ⟨pre,hpre⟩:∃ pre,pre = l.take i:=⟨_,rfl⟩;obtain ⟨suf,hsuf⟩:∃ suf,suf = l.drop i:=⟨_,rfl⟩;have hpl:pre.length = i:=by rw [hpre,Zi];omega
   have hsl:suf.length = l.length - i:=by rw [hsuf,Zj]
   have hs1:∀ (kh:IntKind) (w:World),(Instr.slice 31 (.slice (A) l.length c) none (some (.int kh (i:Int))) none).run Tryz.prog w = .ok (.slice A1 pre.length c) w:=fun kh w=>by rw [hpl];exact htake kh w rfl
   obtain ⟨c2,hc2⟩:∃ c2,c2 = c - i:=⟨_,rfl⟩;have hs2:∀ (kl:IntKind) (w:World),(Instr.slice 31 (.slice (A) l.length c) (some (.int kl (i:Int))) none none).run Tryz.prog w = .ok (.slice A2 suf.length c2) w:=fun kl w=>by rw [hsl,hc2];exact hdrop kl w rfl
   rw [Nat.sub_zero,Nat.sub_zero,<- hpre,<- hpl] at HQ1;rw [<- hsuf,<- hsl,<- hc2] at HQ2;rw [<- hpre,<- hsuf] at HPut;have hbp:pre.length <= 1000000:=by omega
   have hbs2:suf.length <= 1000000:=by omega
   clear htake hdrop hrow1 hrow2 hpre hsuf hc2;clear hpl hsl;have HZ:=Zz hcz;have hB:=HB3.o;have hY:=bR w3.heap.size w3;obtain ⟨n0,n1,n2⟩:=hcz;simp only [Nat.zero_add] at n1 n2;dsimp only at n0 n1 n2;go_cut [4] (fun v4 wx=>Hid (termK.own 24 wx w3.heap.size TT v4 (pre ++ [⟨yk,yt,ye⟩] ++ suf))/\Hid (Below w.heap.size w wx))
   case first =>
    go_region_held3 (fun w'=>w'.cell? ⟨w.heap.size,0,none⟩ = some (Value.int .i64 yk)/\w'.cell? ⟨w.heap.size,1,none⟩ = some (Value.string (mkS yt))/\w'.cell? ⟨w.heap.size,2,none⟩ = some (Value.string (mkS ye)))
     (exact three (HZ.o.below (by (repeat (first | assumption | exact bR _ _ | refine bel_alloc ?_ _ | refine bel_drew ?_)))))
     (first
      | (refine Kd.own_app_step termK (w0:=w3) w3.heap.size (by rfl) (.tmp 34) (.tmp 37) 31 24 Clones.zero_term 40 (by rfl) underlying31 Clones.info_term rfl (by decide) (.slice (some ⟨w3.heap.size,0,none⟩) 0 0) [] pre A1 c TT (by rfl) (by rfl) ?ho (.inr ⟨?hr,Clones.any_term⟩) ?hb ?hs ?hl ?_;go_loud (case hl=>simp;omega);go_loud (case ho=>first | exact own0_1 _ | exact Kd.own_drew (own0_1 _) | exact Kd.own_drew (Kd.own_alloc (own0_1 _) _) | exact Kd.own_drew (own0_2 _ _));go_loud (case hr=>exact Kd.M_below HQ1.o (by (repeat (first | assumption | exact bR _ _ | refine bel_alloc ?_ _ | refine bel_drew ?_))));go_loud (case hb=>repeat (first | assumption | exact bR _ _ | refine bel_alloc ?_ _ | refine bel_drew ?_));go_loud (case hs=>simp;try omega);intro v1 w1 ho1 hb1 hg1 hv1;go_loud (rw [Zf] at ho1);have HO1:=Zz ho1;clear ho1 hv1)
      | (refine Kd.own_app_step termK (w0:=w3) w3.heap.size (by rfl) (.tmp 34) (.tmp 37) 31 24 Clones.zero_term 40 (by rfl) underlying31 Clones.info_term rfl (by decide) (.slice (some ⟨w3.heap.size + 1,0,none⟩) 0 0) [] pre A1 c TT (by rfl) (by rfl) ?ho (.inr ⟨?hr,Clones.any_term⟩) ?hb ?hs ?hl ?_;go_loud (case hl=>simp;omega);go_loud (case ho=>first | exact own0_1 _ | exact Kd.own_drew (own0_1 _) | exact Kd.own_drew (Kd.own_alloc (own0_1 _) _) | exact Kd.own_drew (own0_2 _ _));go_loud (case hr=>exact Kd.M_below HQ1.o (by (repeat (first | assumption | exact bR _ _ | refine bel_alloc ?_ _ | refine bel_drew ?_))));go_loud (case hb=>repeat (first | assumption | exact bR _ _ | refine bel_alloc ?_ _ | refine bel_drew ?_));go_loud (case hs=>simp;try omega);intro v1 w1 ho1 hb1 hg1 hv1;go_loud (rw [Zf] at ho1);have HO1:=Zz ho1;clear ho1 hv1)
      | (refine Kd.own_app_step termK (w0:=w3) w3.heap.size (by rfl) (.tmp 38) (.tmp 40) 31 24 Clones.zero_term 40 (by rfl) underlying31 Clones.info_term rfl (by decide) v1 pre [⟨yk,yt,ye⟩] _ 1 TT (by rfl) (by rfl) ?ho (.inr ⟨?hr,Clones.any_term⟩) ?hb ?hs ?hl ?_;go_loud (case hl=>simp;omega);go_loud (case ho=>repeat (first | exact HO1.o | refine Kd.own_drew ?_ | refine Kd.own_alloc ?_ _));go_loud (case hr=>first | exact one_row _ ⟨yk,yt,ye⟩ hft | (refine one_grown hft ?_ hg1 ?_;(first | exact C3_new1 _ _ ⟨yk,yt,ye⟩ | exact C3_new2 _ ⟨yk,yt,ye⟩ _);(simp [Value.ownBlock])));go_loud (case hb=>repeat (first | assumption | exact bR _ _ | refine bel_alloc ?_ _ | refine bel_drew ?_));go_loud (case hs=>have:=hb1.size;first | omega | (simp;omega));intro v2 w4 ho2 hb2 hg2 hv2;have HO2:=Zz ho2;clear ho2 hg2 hv2)
      | (refine Kd.own_app_step termK (w0:=w3) w3.heap.size (by rfl) (.tmp 41) (.tmp 44) 31 24 Clones.zero_term 40 (by rfl) underlying31 Clones.info_term rfl (by decide) v2 (pre ++ [⟨yk,yt,ye⟩]) suf A2 c2 TT (by rfl) (by rfl) ?ho (.inr ⟨?hr,Clones.any_term⟩) ?hb ?hs ?hl ?_;go_loud (case hl=>simp;omega);go_loud (case ho=>repeat (first | exact HO2.o | refine Kd.own_drew ?_ | refine Kd.own_alloc ?_ _));go_loud (case hr=>exact Kd.M_below HQ2.o (bel_step hB (by (repeat (first | assumption | exact bR _ _ | refine bel_alloc ?_ _ | refine bel_drew ?_)))));go_loud (case hb=>repeat (first | assumption | exact bR _ _ | refine bel_alloc ?_ _ | refine bel_drew ?_));go_loud (case hs=>have:=hb2.size;first | omega | (simp;omega));intro v3 w5 ho3 hb3 hg3 hv3;have HO3:=Zz ho3;clear ho3 hg3 hv3)
      | fail)
    all_goals (go_wp2_with fail;go_meet;exact ⟨HO3,Zz (bel_step hB hb3)⟩)
   case rest =>
    obtain ⟨HO,HB6⟩:=hcut;obtain ⟨A9,c9,rfl,_,_⟩:=Kd.own_slice HO.o;have HM9:=Zz (Kd.own_sl (ok':=fun k=>ok k \/ w.heap.size <= k) (StoreW.own_any (ok':=fun _=>False) Clones.any_term HO.o) (fun k hk=>.inr (Zh HB3.o.size hk)) (fun k hk=>False.elim hk));rw [<- HPut.o] at HM9;rw [<- HPut.o];clear HO;go_wp2;go_ret;exact ⟨_,_,rfl,HM9.o,HB6.o⟩
end PutE
namespace RefOf
open Go.RowKit Go.Lib B Rd TermPure LinesPure Tri SortP OrdG TermW Cmp StoreW PutE
structure OS (w wr:World) (v0 v1 v2 v3:Value):Prop where
 bel:Below w.heap.size w wr
 lt:w.heap.size < wr.heap.size
 c0:wr.cell? ⟨w.heap.size,0,none⟩ = some v0
 c1:wr.cell? ⟨w.heap.size,1,none⟩ = some v1
 c2:wr.cell? ⟨w.heap.size,2,none⟩ = some v2
 c3:wr.cell? ⟨w.heap.size,3,none⟩ = some v3
 free:∀ j,wr.frozen? ⟨w.heap.size,j,none⟩ = false
theorem OS.below {w wr w1:World} {v0 v1 v2 v3:Value} (h:OS w wr v0 v1 v2 v3) (hb:Below (w.heap.size + 1) wr w1):OS w w1 v0 v1 v2 v3:=by
 have hc:∀ o,w1.cell? ⟨w.heap.size,o,none⟩ = wr.cell? ⟨w.heap.size,o,none⟩:=fun o=>hb.cell (p:=⟨w.heap.size,o,none⟩) (Nat.lt_succ_self _)
 exact ⟨h.bel.trans (hb.mono (Nat.le_succ _)),Nat.lt_of_lt_of_le h.lt hb.size,(hc 0).trans h.c0,(hc 1).trans h.c1,(hc 2).trans h.c2,(hc 3).trans h.c3,fun j=>(hb.frozen (p:=⟨w.heap.size,j,none⟩) (Nat.lt_succ_self _)).trans (h.free j)⟩
theorem OS.set1 {w wr:World} {v0 v1 v2 v3:Value} (h:OS w wr v0 v1 v2 v3) (v:Value):OS w (wr.setCell ⟨w.heap.size,1,none⟩ v) v0 v v2 v3:=
 ⟨bel_set h.bel (lR _) _,by simpa using h.lt,(Zo _ _ _ _ (by simp)).trans h.c0,World.cell?_setCell_same _ _ _ h.c1,(Zo _ _ _ _ (by simp)).trans h.c2,(Zo _ _ _ _ (by simp)).trans h.c3,fun j=>by rw [World.frozen?_setCell];exact h.free j⟩
theorem OS.set2 {w wr:World} {v0 v1 v2 v3:Value} (h:OS w wr v0 v1 v2 v3) (v:Value):OS w (wr.setCell ⟨w.heap.size,2,none⟩ v) v0 v1 v v3:=
 ⟨bel_set h.bel (lR _) _,by simpa using h.lt,(Zo _ _ _ _ (by simp)).trans h.c0,(Zo _ _ _ _ (by simp)).trans h.c1,World.cell?_setCell_same _ _ _ h.c2,(Zo _ _ _ _ (by simp)).trans h.c3,fun j=>by rw [World.frozen?_setCell];exact h.free j⟩
theorem OS.set3 {w wr:World} {v0 v1 v2 v3:Value} (h:OS w wr v0 v1 v2 v3) (v:Value):OS w (wr.setCell ⟨w.heap.size,3,none⟩ v) v0 v1 v2 v:=
 ⟨bel_set h.bel (lR _) _,by simpa using h.lt,(Zo _ _ _ _ (by simp)).trans h.c0,(Zo _ _ _ _ (by simp)).trans h.c1,(Zo _ _ _ _ (by simp)).trans h.c2,World.cell?_setCell_same _ _ _ h.c3,fun j=>by rw [World.frozen?_setCell];exact h.free j⟩
theorem OS.new (w:World) (v0 v1 v2 v3:Value):OS w (w.alloc (.cells #[v0,v1,v2,v3] 53)) v0 v1 v2 v3:=by
 have hc:∀ {o:Nat} {u:Value},#[v0,v1,v2,v3][o]? = some u -> (w.alloc (.cells #[v0,v1,v2,v3] 53)).cell? ⟨w.heap.size,o,none⟩ = some u:=fun {o u} hu=>by
  rw [World.cell?,Kd.heap_new];exact hu
 refine ⟨bel_alloc (bR _ _) _,by simp,hc rfl,hc rfl,hc rfl,hc rfl,fun j=>?_⟩;unfold World.frozen?;dsimp only;rw [Kd.heap_new]
 try rfl
def NB (w:World) (k:Nat):Prop:=k ≠ w.heap.size
theorem nb_set {α:Type} {d:Kd α} {w wr:World} {o:Nat} {v:Value} {x:α} {cs:List Value} (h:d.M wr (NB w) x cs):d.M (wr.setCell ⟨w.heap.size,o,none⟩ v) (NB w) x cs:=
 d.move (fun k hk _=>Below.heap_setCell _ _ _ _ hk) h
theorem nb_below {α:Type} {d:Kd α} {w wr w1:World} {x:α} {cs:List Value} (h:d.M wr (NB w) x cs) (hb:Below wr.heap.size wr w1):d.M w1 (NB w) x cs:=
 d.move (fun k _ hlt=>hb.block k hlt) h
theorem nb_or {α:Type} {d:Kd α} {w wr W:World} {x:α} {cs:List Value} (hw:w.heap.size < wr.heap.size) (h:d.M W (fun k=>NB w k \/ wr.heap.size <= k) x cs):d.M W (NB w) x cs:=
 d.mono (fun k hk _=>hk.elim id (fun h2 (e:k = w.heap.size)=>by omega)) h
def OB (w:World) (B k:Nat):Prop:=NB w k/\k < B
theorem ob_set {α:Type} {d:Kd α} {w wr:World} {B o:Nat} {v:Value} {x:α} {cs:List Value} (h:d.M wr (OB w B) x cs):d.M (wr.setCell ⟨w.heap.size,o,none⟩ v) (OB w B) x cs:=
 d.move (fun k hk _=>Below.heap_setCell _ _ _ _ hk.1) h
theorem ob_below {α:Type} {d:Kd α} {w wr w1:World} {B:Nat} {x:α} {cs:List Value} (h:d.M wr (OB w B) x cs) (hb:Below B wr w1):d.M w1 (OB w B) x cs:=
 d.move (fun k hk _=>hb.block k hk.2) h
theorem ob_mono {α:Type} {d:Kd α} {w wr:World} {B B':Nat} {x:α} {cs:List Value} (h:d.M wr (OB w B) x cs) (hB:B <= B'):d.M wr (OB w B') x cs:=
 d.mono (fun k hk _=>⟨hk.1,Nat.lt_of_lt_of_le hk.2 hB⟩) h
theorem ob_of {α:Type} {d:Kd α} {w wr:World} {x:α} {cs:List Value} (h:d.M wr (NB w) x cs):d.M wr (OB w wr.heap.size) x cs:=
 d.mono (fun k hk hlt=>⟨hk,hlt⟩) h
theorem ob_own {α:Type} {d:Kd α} {e:TypeId} {w wr:World} {B:Nat} {v:Value} {xs:List α} (hany:∀ (w:World) (ok ok':Nat -> Prop) (x:α) (cs:List Value),d.M w ok x cs -> d.M w ok' x cs) (h:d.own e wr B (fun _=>False) v xs) (hB:w.heap.size < B):d.sl.M wr (OB w wr.heap.size) xs [v]:=
 ob_of (Kd.own_sl (ok':=NB w) h (fun k hk (e:k = w.heap.size)=>by omega) (fun k hk=>False.elim hk))
theorem one_str (W:World) (S1:List UInt8) (h:S1.length <= 1000):strK.sl.M (W.alloc (.cells #[.string (mkS S1)] 9)) (fun _=>True) [mkS S1] [.slice (some ⟨W.heap.size,0,none⟩) 1 1]:=by
 refine ⟨some ⟨W.heap.size,0,none⟩,1,rfl,lR _,⟨by simp,by unfold maxLen;omega⟩,fun h=>(by cases h),fun i x hx=>?_⟩
 match i with
 | 0 =>
  simp at hx;subst hx;refine ⟨_,[.string (mkS S1)],rfl,trivial,⟨rfl,by show (mkS S1).size <= _;rw [mkS_size];omega⟩,fun j u hu=>?_⟩;rw [add_plain,World.cell?,Kd.heap_new]
  match j with
  | 0=>simp at hu;subst hu;rfl
  | j + 1=>simp at hu
 | i + 1=>simp at hx
theorem one_ids (W:World) (x:Ids) (h:FitsI x):idsK.sl.M (W.alloc (.cells #[.int .i64 (x.a:Nat),.int .i64 (x.b:Nat),.int .i64 (x.c:Nat)] 40)) (fun _=>True) [x] [.slice (some ⟨W.heap.size,0,none⟩) 1 1]:=by
 refine ⟨some ⟨W.heap.size,0,none⟩,1,rfl,lR _,⟨by simp,by unfold maxLen;omega⟩,fun h=>(by cases h),fun i y hy=>?_⟩
 match i with
 | 0 =>
  simp at hy;subst hy;refine ⟨_,idsL x,rfl,trivial,⟨rfl,h⟩,fun j u hu=>?_⟩;rw [add_plain,World.cell?,Kd.heap_new];have hj:j < 3:=(List.getElem?_eq_some_iff.1 hu).1
  match j,hj with
  | 0,_=>cases hu;rfl
  | 1,_=>cases hu;rfl
  | 2,_=>cases hu;rfl
 | i + 1=>simp at hy
def ET (l:List Triple) (i:Nat):List Term:=(inTriples (l.take i)).foldl putL []
theorem ET_zero (l:List Triple):ET l 0 = []:=by simp [ET,inTriples]
theorem ET_all (l:List Triple):ET l l.length = termsT l:=by
 unfold ET termsT;rw [List.take_length]
 try rfl
theorem ET_snoc (l:List Triple) (i:Nat) (h:i < l.length):ET l (i + 1) = putL (putL (putL (ET l i) l[i].s) l[i].p) l[i].o:=by
 unfold ET;rw [<- Made.inT_snoc l i h,List.foldl_append]
 try rfl
theorem putL_mem (l:List Term) (t x:Term):x ∈ putL l t ↔ x = t \/ x ∈ l:=putE_mem _ l t x
theorem putL_len:∀ (l:List Term) (t:Term),(putL l t).length <= l.length + 1
 | [],t=>by simp [putL,putE]
 | y :: l,t=>by
  have ih:=putL_len l t
  unfold putL at ih |-
  rw [putE]
  split
  ·
   simp only [Zc];omega
  ·
   split <;> simp
theorem ET_is {l:List Triple} (h:Valid l):∀ i,i <= l.length -> ∀ x ∈ ET l i,is x = true
 | 0,_,x,hx=>by rw [ET_zero] at hx;cases hx
 | i + 1,hi,x,hx=>by
  rw [ET_snoc l i hi,putL_mem,putL_mem,putL_mem] at hx
  have ht:=ParseP.isT_parts (h l[i] (Zm _))
  rcases hx with rfl | rfl | rfl | hx
  ·
   exact ht.2.2
  ·
   exact ht.2.1
  ·
   exact ht.1
  ·
   exact ET_is h i (by omega) x hx
theorem ET_len (l:List Triple):∀ i,i <= l.length -> (ET l i).length <= 3 * i
 | 0,_=>by rw [ET_zero];simp
 | i + 1,hi=>by
  rw [ET_snoc l i hi]
  have h1:=ET_len l i (by omega)
  have h2:=putL_len (ET l i) l[i].s
  have h3:=putL_len (putL (ET l i) l[i].s) l[i].p
  have h4:=putL_len (putL (putL (ET l i) l[i].s) l[i].p) l[i].o
  omega
theorem small_is {x:Term} (h:is x = true):SmallM x:=by
 have:=ParseP.is_small h;unfold SmallM;omega
theorem fits_is {x:Term} (h:is x = true):FitsW x:=by
 have:=ParseP.is_small h;unfold FitsW;omega
end RefOf
namespace RefOf
open Go.RowKit Go.Lib B Rd TermPure LinesPure Tri SortP OrdG TermW Cmp StoreW Search
theorem idxOf_le:∀ (l:List Term) (t:Term) (i:Nat) (h:i < l.length),l[i] = t -> l.idxOf t <= i
 | [],_,_,h,_=>by simp at h
 | x :: l,t,0,_,he=>by
  rw [List.getElem_cons_zero] at he
  rw [List.idxOf_cons,he]
  simp
 | x :: l,t,i + 1,h,he=>by
  have ih:=idxOf_le l t i (by simpa using h) (by rw [List.getElem_cons_succ] at he;exact he)
  rw [List.idxOf_cons]
  cases (x == t)
  ·
   simp only [cond_false];omega
  ·
   simp only [cond_true];omega
theorem idOf_first {l:List Term} {t:Term} {i:Nat} (h:i < l.length) (he:l[i] = t) (hne:∀ j (hj:j < l.length),j < i -> l[j] ≠ t):idOf l t = i + 1:=by
 have hm:t ∈ l:=by rw [<- he];exact Zm h
 unfold idOf;rw [if_pos hm];have h1:=List.idxOf_lt_length_of_mem hm;have h2:l[l.idxOf t] = t:=List.getElem_idxOf h1;have h3:l.idxOf t <= i:=idxOf_le l t i h he;have h5:¬ l.idxOf t < i:=fun h4=>hne _ h1 h4 h2
 omega
theorem idOf_none {l:List Term} {t:Term} (hne:∀ j (hj:j < l.length),l[j] ≠ t):idOf l t = 0:=by
 unfold idOf;rw [if_neg];intro hm;obtain ⟨j,hj,he⟩:=List.getElem_of_mem hm;exact hne j hj he
theorem id11_calls (E:List Term) (t:Term) (g:Nat) (A:Option Addr) (c:Nat) (w:World) (hg:w.cell? ⟨g,1,none⟩ = some (.slice A E.length c)) (HL:termK.sl.M w (fun k=>k < w.heap.size) E [.slice A E.length c]) (hb:E.length <= 1000000) :
  Calls Tryz.prog 49 #[.pointer (some ⟨g,0,none⟩),Ref5.termV t] w fun e w'=>e = .returned (.int .i64 (idOf E t:Nat))/\Below w.heap.size w w':=by
 have hb0:Below w.heap.size w (w.alloc (.cells (termL t).toArray 24)):=bel_alloc (bR _ _) _;have hcy:=C3.new w t;obtain ⟨w0,hw0⟩:∃ w0,w0 = w.alloc (.cells (termL t).toArray 24):=⟨_,rfl⟩;rw [<- hw0] at hb0 hcy;have HWX:Hid (w.alloc (.cells #[.int .i64 t.kind,.string (mkS t.text),.string (mkS t.extra)] 24) = w0):=Zz hw0.symm;have HB0:=Zz hb0;have HG:=Zz (fun W (h:Below w.heap.size w W)=>(h.cell (p:=⟨g,1,none⟩) (cell_lt hg)).trans hg);have HRow:=Zz (fun hp=>term_cells HL hp);have HCy:=Zz hcy;have HF:=Zz (fun i h he hne=>idOf_first (l:=E) (t:=t) (i:=i) h he hne);have HN:=Zz (fun hne=>idOf_none (l:=E) (t:=t) hne);obtain ⟨n,hn⟩:∃ n,n = idOf E t:=⟨_,rfl⟩;rw [<- hn] at HF HN;rw [<- hn];clear hn hb0 hcy hw0 hg HL;unfold Ref5.termV;go_enter func49,ntmps49;go_upto_region 1 with fail
 rw [HWX.o];go_wp2;go_loopw [5] (fun vi wr=>∃ i:Nat,vi = .int .i64 i/\i <= E.length/\Hid ((∀ j (hj:j < E.length),j < i -> E[j] ≠ t)/\Below w0.heap.size w0 wr)) (fun vi _=>E.length - (intOf vi).toNat)
 case atStart=>exact ⟨0,rfl,by omega,Zz ⟨fun j hj h=>by omega,bR _ _⟩⟩
 case round =>
  obtain ⟨i,rfl,hi,HI⟩:=hrel;have HBw:=Zz (bel_step HB0.o HI.o.2);have k1:=HG.o wr HBw.o;have HBd:=Zz (fun q=>bel_drewN HBw.o q);by_cases hlt:i < E.length
  ·
   have hd:decide (i < E.length) = true:=dT hlt;have ik:(i:Int) < (E.length:Int):=by omega
   obtain ⟨b,off,rfl,_,hbs,hcells⟩:=HRow.o (by omega);have hcx:=(hcells i hlt).below HBw.o;have hcy:=HCy.o.below HI.o.2;obtain ⟨x,hx⟩:∃ x,x = E[i]:=⟨_,rfl⟩;rw [<- hx] at hcx;have HQ:=Zz (fun W=>TriEq.run_eq_term x t W);have HOk:Hid (x = t -> n = i + 1):=Zz (fun h=>HF.o i hlt (by rw [<- hx];exact h) HI.o.1);have HNo:Hid (x ≠ t -> ∀ j (hj:j < E.length),j < i + 1 -> E[j] ≠ t):=Zz (fun h j hj hji=>by
    by_cases e:j = i
    ·
     subst e;rw [<- hx];exact h
    ·
     exact HI.o.1 j hj (by omega))
   have HIb:=Zz (fun q=>bel_drewN HI.o.2 q);clear hcells hx HI;by_cases hxt:x = t
   ·
    rw [dT hxt] at HQ;have HV:=Zz (HOk.o hxt);clear hxt HOk HNo;obtain ⟨xk,xt,xe⟩:=x;obtain ⟨yk,yt,ye⟩:=t;obtain ⟨x0,x1,x2⟩:=hcx;obtain ⟨y0,y1,y2⟩:=hcy;simp only [Nat.zero_add] at y1 y2;have hqq:=HQ.o;dsimp only at x0 x1 x2 y0 y1 y2 hqq;go_upto_region 4 with fail
    go_quiet (fail);go_wp2;go_ret;exact ⟨by rw [HV.o];first | rfl | (simp),HBd.o _⟩
   ·
    rw [dF hxt] at HQ;have HV:=Zz (HNo.o hxt);clear hxt HOk HNo;obtain ⟨xk,xt,xe⟩:=x;obtain ⟨yk,yt,ye⟩:=t;obtain ⟨x0,x1,x2⟩:=hcx;obtain ⟨y0,y1,y2⟩:=hcy;simp only [Nat.zero_add] at y1 y2;have hqq:=HQ.o;dsimp only at x0 x1 x2 y0 y1 y2 hqq;go_upto_region 4 with fail
    go_quiet (fail);go_wp2;go_roundw
    case rel=>exact ⟨i + 1,by go_num,by omega,Zz ⟨HV.o,HIb.o _⟩⟩
    case measure=>simp [intOf];omega
  ·
   have hd:decide (i < E.length) = false:=dF hlt;have HV:Hid (n = 0):=Zz (HN.o (fun j hj=>HI.o.1 j hj (by omega)));clear HI;go_wp2;go_ret;exact ⟨by rw [HV.o];rfl,HBw.o⟩
end RefOf
namespace RefOf
open Go.RowKit Go.Lib B Rd TermPure LinesPure Tri SortP OrdG TermW Cmp StoreW PutE Search Long
structure RefAt (w:World) (ok:Nat -> Prop) (g:Nat) (T:List Triple):Prop where
 tri:∃ A c,w.cell? ⟨g,0,none⟩ = some (.slice A T.length c)/\triK.sl.M w ok T [.slice A T.length c]
 terms:∃ A c,w.cell? ⟨g,1,none⟩ = some (.slice A (termsT T).length c)/\termK.sl.M w ok (termsT T) [.slice A (termsT T).length c]
 shows:∃ A c,w.cell? ⟨g,2,none⟩ = some (.slice A (termsT T).length c)/\strK.sl.M w ok (FrontW.strs (StoreP.texts T)) [.slice A (termsT T).length c]
 ids:∃ A c,w.cell? ⟨g,3,none⟩ = some (.slice A T.length c)/\idsK.sl.M w ok (idsT T) [.slice A T.length c]
theorem strs_snoc (l:List (List UInt8)) (k:Nat) (h:k < l.length):FrontW.strs (l.take k) ++ [mkS l[k]] = FrontW.strs (l.take (k + 1)):=by
 unfold FrontW.strs;rw [Zt h,List.map_append]
 try rfl
theorem of_calls (l:List Triple) (hv:Valid l) (hl:l.length <= 100) (A:Option Addr) (c:Nat) (w:World) (HL:triK.sl.M w (fun k=>k < w.heap.size) l [.slice A l.length c]) :
  Calls Tryz.prog 20 #[.slice A l.length c] w fun e w'=>(∃ g,e = .returned (.pointer (some ⟨g,0,none⟩))/\RefAt w' (fun _=>True) g l)/\Below w.heap.size w w':=by
 have HRow:=Zz (fun k hk=>row_cells HL k hk);have HM:=Zz HL;have HV:=Zz hv;have HOS0:=Zz (OS.new w (.slice A l.length c) (.slice none 0 0) (.slice none 0 0) (.slice none 0 0));have HE0:Hid (termK.sl.M (w.alloc (.cells #[.slice A l.length c,.slice none 0 0,.slice none 0 0,.slice none 0 0] 53)) (NB w) [] [.slice none 0 0]):=Zz ⟨none,0,rfl,lR _,⟨Nat.zero_le _,Nat.zero_le _⟩,fun _=>rfl,Kd.row_nil _ _ _ _⟩;have hl100:l.length <= 100:=hl;clear HL hv;go_enter func20,ntmps20;go_wp2;go_loopw [4] (fun vi wr=>∃ (i cE:Nat) (AE:Option Addr) (E:List Term),vi = .int .i64 i/\i <= l.length/\Hid (OS w wr (.slice A l.length c) (.slice AE E.length cE) (.slice none 0 0) (.slice none 0 0)/\termK.sl.M wr (NB w) E [.slice AE E.length cE]/\E = ET l i)) (fun vi _=>l.length - (intOf vi).toNat)
 case atStart=>exact ⟨0,0,none,[],rfl,by omega,Zz ⟨HOS0.o,HE0.o,(ET_zero l).symm⟩⟩
 case round =>
  obtain ⟨i,cE,AE,E,rfl,hi,HI⟩:=hrel;clear HOS0 HE0;by_cases hlt:i < l.length
  ·
   have hd:decide (i < l.length) = true:=dT hlt;have ik:(i:Int) < (l.length:Int):=by omega
   obtain ⟨b,off,rfl,hbs,hcells⟩:=HRow.o i hlt;obtain ⟨t,ht⟩:∃ t,t = l[i]:=⟨_,rfl⟩;have hcx:=(hcells i hlt).below HI.o.1.bel;rw [<- ht] at hcx;have hEis:=ET_is HV.o i hi;have hElen:=ET_len l i hi;have hsn:=ET_snoc l i hlt;rw [<- HI.o.2.2] at hEis hElen hsn;rw [<- ht] at hsn;have htv:=ParseP.isT_parts (HV.o t (by rw [ht];exact Zm hlt));have HSE:=Zz hsn;obtain ⟨E1,hE1⟩:∃ E1,E1 = putL E t.s:=⟨_,rfl⟩;obtain ⟨E2,hE2⟩:∃ E2,E2 = putL E1 t.p:=⟨_,rfl⟩;obtain ⟨E3,hE3⟩:∃ E3,E3 = putL E2 t.o:=⟨_,rfl⟩;have is1:∀ x ∈ E1,is x = true:=fun x hx=>by rw [hE1,putL_mem] at hx;exact hx.elim (fun e=>by rw [e];exact htv.1) (hEis x)
   have is2:∀ x ∈ E2,is x = true:=fun x hx=>by rw [hE2,putL_mem] at hx;exact hx.elim (fun e=>by rw [e];exact htv.2.1) (is1 x)
   have n1:=putL_len E t.s;have n2:=putL_len E1 t.p;rw [<- hE1] at n1;rw [<- hE2] at n2;have HC1:Hid (∀ W,Below wr.heap.size wr W -> Calls Tryz.prog 48 #[.slice AE E.length cE,Ref5.termV t.s] W fun e w'=>∃ A' c',e = .returned (.slice A' E1.length c')/\termK.sl.M w' (NB w) E1 [.slice A' E1.length c']/\Below W.heap.size W w'):=Zz (fun W hW=>by
    have hm:=nb_below HI.o.2.1 hW;rw [hE1];refine (put_calls E t.s AE cE W (NB w) hm (Kd.M_bound hm) (fun x hx=>small_is (hEis x hx)) (small_is htv.1) (fits_is htv.1) (by omega)).mono ?_;rintro e w' ⟨A',c',he,hm',hb'⟩;exact ⟨A',c',he,nb_or (Nat.lt_of_lt_of_le HI.o.1.lt hW.size) hm',hb'⟩)
   have HC2:Hid (∀ W A1 c1,w.heap.size < W.heap.size -> termK.sl.M W (NB w) E1 [.slice A1 E1.length c1] -> Calls Tryz.prog 48 #[.slice A1 E1.length c1,Ref5.termV t.p] W fun e w'=>∃ A' c',e = .returned (.slice A' E2.length c')/\termK.sl.M w' (NB w) E2 [.slice A' E2.length c']/\Below W.heap.size W w'):=Zz (fun W A1 c1 hz hm=>by
    rw [hE2];refine (put_calls E1 t.p A1 c1 W (NB w) hm (Kd.M_bound hm) (fun x hx=>small_is (is1 x hx)) (small_is htv.2.1) (fits_is htv.2.1) (by omega)).mono ?_;rintro e w' ⟨A',c',he,hm',hb'⟩;exact ⟨A',c',he,nb_or hz hm',hb'⟩)
   have HC3:Hid (∀ W A1 c1,w.heap.size < W.heap.size -> termK.sl.M W (NB w) E2 [.slice A1 E2.length c1] -> Calls Tryz.prog 48 #[.slice A1 E2.length c1,Ref5.termV t.o] W fun e w'=>∃ A' c',e = .returned (.slice A' E3.length c')/\termK.sl.M w' (NB w) E3 [.slice A' E3.length c']/\Below W.heap.size W w'):=Zz (fun W A1 c1 hz hm=>by
    rw [hE3];refine (put_calls E2 t.o A1 c1 W (NB w) hm (Kd.M_bound hm) (fun x hx=>small_is (is2 x hx)) (small_is htv.2.2) (fits_is htv.2.2) (by omega)).mono ?_;rintro e w' ⟨A',c',he,hm',hb'⟩;exact ⟨A',c',he,nb_or hz hm',hb'⟩)
   have HE3:Hid (E3 = ET l (i + 1)):=Zz (by rw [HSE.o,hE3,hE2,hE1]);have HOS:=Zz HI.o.1;have hglt:=HOS.o.lt;clear hcells ht hEis hElen hsn htv hE1 hE2 hE3 is1 is2 n1 n2 HSE HI;obtain ⟨⟨sk,sx,se⟩,⟨pk,px,pe⟩,⟨ok',ox,oe⟩⟩:=t;unfold Ref5.termV at HC1 HC2 HC3;dsimp only at HC1 HC2 HC3;have HK:Hid (∀ w',Below wr.heap.size wr w' -> w'.cell? ⟨w.heap.size,1,none⟩ = some (Value.slice AE E.length cE)/\w'.cell? ⟨b,off + i * 9,none⟩ = some (Value.int .i64 sk)/\w'.cell? ⟨b,off + i * 9 + 1,none⟩ = some (Value.string (mkS sx))/\w'.cell? ⟨b,off + i * 9 + 2,none⟩ = some (Value.string (mkS se))/\w'.cell? ⟨b,off + i * 9 + 3,none⟩ = some (Value.int .i64 pk)/\w'.cell? ⟨b,off + i * 9 + 4,none⟩ = some (Value.string (mkS px))/\w'.cell? ⟨b,off + i * 9 + 5,none⟩ = some (Value.string (mkS pe))/\w'.cell? ⟨b,off + i * 9 + 6,none⟩ = some (Value.int .i64 ok')/\w'.cell? ⟨b,off + i * 9 + 7,none⟩ = some (Value.string (mkS ox))/\w'.cell? ⟨b,off + i * 9 + 8,none⟩ = some (Value.string (mkS oe))):=Zz (fun w' hb=>by
    obtain ⟨z0,z1,z2,z3,z4,z5,z6,z7,z8⟩:=hcx.below hb;exact ⟨(hb.cell (p:=⟨w.heap.size,1,none⟩) HOS.o.lt).trans HOS.o.c1,z0,z1,z2,z3,z4,z5,z6,z7,z8⟩)
   have hY:=bR wr.heap.size wr;have k1:=HOS.o.c1;obtain ⟨_,z0,z1,z2,z3,z4,z5,z6,z7,z8⟩:=HK.o _ hY;clear hcx;go_upto_region 5 with fail
   refine HeldZ.region (fun w'=>w'.cell? ⟨w.heap.size,1,none⟩ = some (Value.slice AE E.length cE)/\w'.cell? ⟨b,off + i * 9,none⟩ = some (Value.int .i64 sk)/\w'.cell? ⟨b,off + i * 9 + 1,none⟩ = some (Value.string (mkS sx))/\w'.cell? ⟨b,off + i * 9 + 2,none⟩ = some (Value.string (mkS se))/\w'.cell? ⟨b,off + i * 9 + 3,none⟩ = some (Value.int .i64 pk)/\w'.cell? ⟨b,off + i * 9 + 4,none⟩ = some (Value.string (mkS px))/\w'.cell? ⟨b,off + i * 9 + 5,none⟩ = some (Value.string (mkS pe))/\w'.cell? ⟨b,off + i * 9 + 6,none⟩ = some (Value.int .i64 ok')/\w'.cell? ⟨b,off + i * 9 + 7,none⟩ = some (Value.string (mkS ox))/\w'.cell? ⟨b,off + i * 9 + 8,none⟩ = some (Value.string (mkS oe))) 25 26 #[false,false,false,false,false,false,false,false,false,false,false,false,false,false,false,false,false,false,false,false,false,false,false,false,false,false] (by kernel_rfl) rfl rfl ?_;intro hinv;have hS:=HK.o wr.drew (bel_drew (bR _ _))
   try dsimp only at hS
   refine HeldZ.tk 0 hinv hS ?_;clear hinv;intro hinv
   try simp only [Act.put,HeldZ.sm] at hinv |-
   refine HeldZ.tk 1 hinv hS ?_;clear hinv;intro hinv
   try simp only [Act.put,HeldZ.sm] at hinv |-
   refine HeldZ.tk 2 hinv hS ?_;clear hinv;intro hinv
   try simp only [Act.put,HeldZ.sm] at hinv |-
   refine HeldZ.tk 3 hinv hS ?_;clear hinv;intro hinv
   try simp only [Act.put,HeldZ.sm] at hinv |-
   refine HeldZ.tk 4 hinv hS ?_;clear hinv;intro hinv
   try simp only [Act.put,HeldZ.sm] at hinv |-
   refine HeldZ.tk 5 hinv hS ?_;clear hinv;intro hinv
   try simp only [Act.put,HeldZ.sm] at hinv |-
   refine HeldZ.tk 6 hinv hS ?_;clear hinv;intro hinv
   try simp only [Act.put,HeldZ.sm] at hinv |-
   refine HeldZ.tk 7 hinv hS ?_;clear hinv;intro hinv
   try simp only [Act.put,HeldZ.sm] at hinv |-
   refine HeldZ.tk 8 hinv hS ?_;clear hinv;intro hinv
   try simp only [Act.put,HeldZ.sm] at hinv |-
   refine HeldZ.tk 9 hinv hS ?_;clear hinv;intro hinv
   try simp only [Act.put,HeldZ.sm] at hinv |-
   refine HeldZ.tk 11 hinv hS ?_;clear hinv;intro hinv
   try simp only [Act.put,HeldZ.sm] at hinv |-
   refine HeldZ.tk 12 hinv hS ?_;clear hinv;intro hinv
   try simp only [Act.put,HeldZ.sm] at hinv |-
   refine HeldZ.tk 13 hinv hS ?_;clear hinv;intro hinv
   try simp only [Act.put,HeldZ.sm] at hinv |-
   refine HeldZ.tk 14 hinv hS ?_;clear hinv;intro hinv
   try simp only [Act.put,HeldZ.sm] at hinv |-
   refine HeldZ.tk 15 hinv hS ?_;clear hinv;intro hinv
   try simp only [Act.put,HeldZ.sm] at hinv |-
   refine HeldZ.tk 17 hinv hS ?_;clear hinv;intro hinv
   try simp only [Act.put,HeldZ.sm] at hinv |-
   refine HeldZ.tk 18 hinv hS ?_;clear hinv;intro hinv
   try simp only [Act.put,HeldZ.sm] at hinv |-
   refine HeldZ.tk 19 hinv hS ?_;clear hinv;intro hinv
   try simp only [Act.put,HeldZ.sm] at hinv |-
   refine HeldZ.tk 20 hinv hS ?_;clear hinv;intro hinv
   try simp only [Act.put,HeldZ.sm] at hinv |-
   refine HeldZ.tk 21 hinv hS ?_;clear hinv;intro hinv
   try simp only [Act.put,HeldZ.sm] at hinv |-
   refine HeldZ.ow 10 hinv ?_;clear hinv;intro hinv K hK;go_simp;refine (HC1.o _ ?hbl).mono ?_
   case hbl=>repeat (first | exact bR _ _ | assumption | refine bel_drew ?_ | refine bel_alloc ?_ _)
   rintro e w2 ⟨A1,c1,rfl,hM1,hb1⟩;have HM1:=Zz hM1;have hB1:Below wr.heap.size wr w2:=bel_step (by repeat (first | exact bR _ _ | assumption | refine bel_drew ?_ | refine bel_alloc ?_ _)) hb1;clear hM1;refine hK _ _ (fun _=>HK.o _ hB1) ?_;clear hK K
   try simp only [Act.put,HeldZ.sm] at hinv |-
   refine HeldZ.ow 16 hinv ?_;clear hinv;intro hinv K hK;go_simp;refine (HC2.o _ A1 c1 ?hz ?hm).mono ?_
   case hz=>have:=hB1.size;omega
   case hm=>exact HM1.o
   rintro e w3 ⟨A2,c2,rfl,hM2,hb2⟩;have HM2:=Zz hM2;have hB2:Below wr.heap.size wr w3:=bel_step (by repeat (first | exact bR _ _ | assumption | refine bel_drew ?_ | refine bel_alloc ?_ _)) hb2;clear hM2;refine hK _ _ (fun _=>HK.o _ hB2) ?_;clear hK K
   try simp only [Act.put,HeldZ.sm] at hinv |-
   refine HeldZ.ow 22 hinv ?_;clear hinv;intro hinv K hK;go_simp;refine (HC3.o _ A2 c2 ?hz ?hm).mono ?_
   case hz=>have:=hB2.size;omega
   case hm=>exact HM2.o
   rintro e w4 ⟨A3,c3,rfl,hM3,hb3⟩;have HM3:=Zz hM3;have hB3:Below wr.heap.size wr w4:=bel_step (by repeat (first | exact bR _ _ | assumption | refine bel_drew ?_ | refine bel_alloc ?_ _)) hb3;clear hM3;refine hK _ _ (fun _=>HK.o _ hB3) ?_;clear hK K
   try simp only [Act.put,HeldZ.sm] at hinv |-
   clear hS;have hS:=HK.o _ hB3;refine HeldZ.tk 23 hinv hS ?_;clear hinv;intro hinv
   try simp only [Act.put,HeldZ.sm] at hinv |-
   refine HeldZ.tk 24 hinv hS ?_;clear hinv;intro hinv
   try simp only [Act.put,HeldZ.sm] at hinv |-
   have HO4:=Zz (HOS.o.below (hB3.mono hglt));have f1:=HO4.o.free 1;have e1:=HO4.o.c1;refine HeldZ.one 25 hinv (by kernel_rfl) rfl rfl ?_;clear hinv;intro _ K hK;go_simp;refine hK _ _ (fun h=>absurd rfl h) ?_;refine HeldZ.done (by kernel_rfl) ?_ _;have HOSn:=Zz (HO4.o.set1 (.slice A3 E3.length c3));have HEn:=Zz (nb_set (w:=w) (o:=1) (v:=.slice A3 E3.length c3) HM3.o);clear hS hK K HM1 HM2 HM3 HO4 f1 e1 k1 hb1 hb2 hb3 hB1 hB2 hB3 z0 z1 z2 z3 z4 z5 z6 z7 z8 hY;go_wp2;go_roundw
   case rel=>exact ⟨i + 1,c3,A3,E3,by go_num,by omega,Zz ⟨HOSn.o,HEn.o,HE3.o⟩⟩
   case measure=>simp [intOf];omega
  ·
   have hd:decide (i < l.length) = false:=dF hlt;have HEt:Hid (E = termsT l):=Zz (by
    have h:i = l.length:=by omega
    rw [HI.o.2.2,h,ET_all])
   have hE300:E.length <= 300:=by
    have h1:=ET_len l i hi;rw [<- HI.o.2.2] at h1;omega
   have HEis:=Zz (ET_is HV.o i hi);rw [<- HI.o.2.2] at HEis;obtain ⟨B1,hB1⟩:∃ B1,B1 = wr.heap.size:=⟨_,rfl⟩;have HBl:Hid (w.heap.size < B1):=Zz (by rw [hB1];exact HI.o.1.lt);have HOS1:=Zz HI.o.1;have HEM1:Hid (termK.sl.M wr (OB w B1) E [.slice AE E.length cE]):=Zz (by rw [hB1];exact ob_of HI.o.2.1);have HB1s:Hid (B1 <= wr.heap.size):=Zz (by rw [hB1];exact lR _);have HX0:Hid (strK.own 9 wr B1 Made.FF (.slice none 0 0) ([]:List ByteArray)):=Zz (Kd.own_nil _ _ _ _ _);have HXe:Hid (([]:List ByteArray) = FrontW.strs ((E.map shown).take 0)):=Zz rfl;have k1:=HOS1.o.c1;clear HI hlt hB1;go_wp2;go_loopw [5] (fun vi wr=>∃ (k c2:Nat) (A2:Option Addr) (X:List ByteArray),vi = .int .i64 k/\k <= E.length/\Hid (OS w wr (.slice A l.length c) (.slice AE E.length cE) (.slice A2 X.length c2) (.slice none 0 0)/\termK.sl.M wr (OB w B1) E [.slice AE E.length cE]/\strK.own 9 wr B1 Made.FF (.slice A2 X.length c2) X/\X = FrontW.strs ((E.map shown).take k)/\B1 <= wr.heap.size)) (fun vi _=>E.length - (intOf vi).toNat)
   case atStart=>exact ⟨0,0,none,[],rfl,by omega,Zz ⟨HOS1.o,HEM1.o,HX0.o,HXe.o,HB1s.o⟩⟩
   case round =>
    obtain ⟨k,c2,A2,X,rfl,hk,HJ⟩:=hrel;clear HOS1 HEM1 HX0 HXe k1 HB1s;have k1:=HJ.o.1.c1;by_cases hlt2:k < E.length
    ·
     have hd2:decide (k < E.length) = true:=dT hlt2;have ik2:(k:Int) < (E.length:Int):=by omega
     obtain ⟨b2,off2,rfl,hob2,hbs2,hcells2⟩:=term_cells HJ.o.2.1 (by omega);have hcx:=hcells2 k hlt2;have hkm:k < (E.map shown).length:=by rw [List.length_map];exact hlt2
     have hsn:=strs_snoc (E.map shown) k hkm;rw [List.getElem_map,<- HJ.o.2.2.2.1] at hsn;obtain ⟨x,hx⟩:∃ x,x = E[k]:=⟨_,rfl⟩;rw [<- hx] at hcx hsn;have hxi:=HEis.o x (by rw [hx];exact Zm hlt2);have hss:=StoreP.shown_short hxi;have HSh:=Zz (fun W=>RefCmp.show4_calls x (small_is hxi) W);obtain ⟨S1,hS1⟩:∃ S1,S1 = shown x:=⟨_,rfl⟩;rw [<- hS1] at hsn hss HSh;have HSn:=Zz hsn;have hXl:X.length <= 300:=by rw [HJ.o.2.2.2.1,FrontW.strs_len,Zi,List.length_map];omega
     have HOS:=Zz HJ.o.1;have HEM:=Zz HJ.o.2.1;have HXo:=Zz HJ.o.2.2.1;have HBs:=Zz HJ.o.2.2.2.2;have HOb:Hid (b2 ≠ w.heap.size/\b2 < B1):=Zz ⟨hob2.1,hob2.2⟩;clear hcells2 hx hxi hS1 hsn hkm HJ hob2;obtain ⟨xk,xt,xe⟩:=x;unfold Ref5.termV at HSh;dsimp only at HSh;have HK:Hid (∀ w',Below B1 wr w' -> w'.cell? ⟨w.heap.size,1,none⟩ = some (Value.slice (some ⟨b2,off2,none⟩) E.length cE)/\w'.cell? ⟨w.heap.size,2,none⟩ = some (Value.slice A2 X.length c2)/\w'.cell? ⟨b2,off2 + k * 3,none⟩ = some (Value.int .i64 xk)/\w'.cell? ⟨b2,off2 + k * 3 + 1,none⟩ = some (Value.string (mkS xt))/\w'.cell? ⟨b2,off2 + k * 3 + 2,none⟩ = some (Value.string (mkS xe))):=Zz (fun w' hb=>by
      obtain ⟨z0,z1,z2⟩:=hcx.moved (hb.block b2 HOb.o.2);exact ⟨(hb.cell (p:=⟨w.heap.size,1,none⟩) HBl.o).trans HOS.o.c1,(hb.cell (p:=⟨w.heap.size,2,none⟩) HBl.o).trans HOS.o.c2,z0,z1,z2⟩)
     clear hcx;go_upto_region 9 with fail
     refine HeldZ.region (fun w'=>w'.cell? ⟨w.heap.size,1,none⟩ = some (Value.slice (some ⟨b2,off2,none⟩) E.length cE)/\w'.cell? ⟨w.heap.size,2,none⟩ = some (Value.slice A2 X.length c2)/\w'.cell? ⟨b2,off2 + k * 3,none⟩ = some (Value.int .i64 xk)/\w'.cell? ⟨b2,off2 + k * 3 + 1,none⟩ = some (Value.string (mkS xt))/\w'.cell? ⟨b2,off2 + k * 3 + 2,none⟩ = some (Value.string (mkS xe))) 17 18 #[false,false,false,false,false,false,false,false,false,false,false,false,false,false,false,false,false,false] (by kernel_rfl) rfl rfl ?_;intro hinv;have hS:=HK.o wr.drew ((bel_drew (bR wr.heap.size wr)).mono HBs.o);refine HeldZ.tk 0 hinv hS ?_;clear hinv;intro hinv
     try simp only [Act.put,HeldZ.sm] at hinv |-
     refine HeldZ.tk 1 hinv hS ?_;clear hinv;intro hinv
     try simp only [Act.put,HeldZ.sm] at hinv |-
     refine HeldZ.tk 2 hinv hS ?_;clear hinv;intro hinv
     try simp only [Act.put,HeldZ.sm] at hinv |-
     refine HeldZ.tk 3 hinv hS ?_;clear hinv;intro hinv
     try simp only [Act.put,HeldZ.sm] at hinv |-
     refine HeldZ.tk 4 hinv hS ?_;clear hinv;intro hinv
     try simp only [Act.put,HeldZ.sm] at hinv |-
     refine HeldZ.tk 5 hinv hS ?_;clear hinv;intro hinv
     try simp only [Act.put,HeldZ.sm] at hinv |-
     refine HeldZ.tk 6 hinv hS ?_;clear hinv;intro hinv
     try simp only [Act.put,HeldZ.sm] at hinv |-
     refine HeldZ.tk 7 hinv hS ?_;clear hinv;intro hinv
     try simp only [Act.put,HeldZ.sm] at hinv |-
     refine HeldZ.tk 8 hinv hS ?_;clear hinv;intro hinv
     try simp only [Act.put,HeldZ.sm] at hinv |-
     refine HeldZ.tk 9 hinv hS ?_;clear hinv;intro hinv
     try simp only [Act.put,HeldZ.sm] at hinv |-
     refine HeldZ.tk 10 hinv hS ?_;clear hinv;intro hinv
     try simp only [Act.put,HeldZ.sm] at hinv |-
     refine HeldZ.tk 11 hinv hS ?_;clear hinv;intro hinv
     try simp only [Act.put,HeldZ.sm] at hinv |-
     refine HeldZ.ow 12 hinv ?_;clear hinv;intro hinv K hK;go_simp;refine (HSh.o _).mono ?_;rintro e w2 ⟨rfl,hb2⟩;have hB2:Below wr.heap.size wr w2:=bel_step (bel_drew (bR _ _)) hb2;have hB21:Below B1 wr w2:=hB2.mono HBs.o;refine hK _ _ (fun _=>HK.o _ hB21) ?_;clear hK K
     try simp only [Act.put,HeldZ.sm] at hinv |-
     refine HeldZ.ow 13 hinv ?_;clear hinv;intro hinv K hK;go_simp;refine hK _ _ (fun _=>HK.o _ ((bel_alloc hB2 _).mono HBs.o)) ?_;clear hK K
     try simp only [Act.put,HeldZ.sm] at hinv |-
     have hz2:B1 <= w2.heap.size:=Zh HBs.o hB2.size;refine HeldZ.oneL 14 hinv (by kernel_rfl) rfl rfl ?_;clear hinv;intro hinv K hK;have hinv:=hinv (by decide);refine Kd.own_app_step strK (w0:=w2) B1 (by rfl) (.tmp 54) (.tmp 63) 51 9 Clones.zero_str 16 (by rfl) underlying51 Clones.info_str rfl (by decide) (.slice A2 X.length c2) X [mkS S1] (some ⟨w2.heap.size,0,none⟩) 1 Made.FF (by rfl) (by rfl) ?ho (.inr ⟨?hr,Clones.any_str⟩) ?hbb ?hs ?hl ?_
     case ho=>exact Kd.own_alloc (Kd.own_below HXo.o hB2) _
     case hr=>exact one_str w2 S1 (by omega)
     case hbb=>exact (bel_alloc (bR _ _) _).mono hz2
     case hs=>simp;omega
     case hl=>simp;omega
     intro v1 w3 ho3 hb3 hg3 hv3;rw [HSn.o] at ho3;obtain ⟨X3,hX3⟩:∃ X3,X3 = FrontW.strs ((E.map shown).take (k + 1)):=⟨_,rfl⟩;rw [<- hX3] at ho3;have HX3:=Zz hX3;have HO3:=Zz ho3;obtain ⟨A3,c3,rfl,_,_⟩:=Kd.own_slice ho3;have hB31:Below B1 wr w3:=hB21.trans hb3;refine hK _ _ (fun _=>HK.o _ hB31) ?_;clear hK K hX3 ho3 hg3 hv3
     try simp only [Act.put,HeldZ.sm] at hinv |-
     clear hS;have hS:=HK.o _ hB31;refine HeldZ.tk 15 hinv hS ?_;clear hinv;intro hinv
     try simp only [Act.put,HeldZ.sm] at hinv |-
     refine HeldZ.tk 16 hinv hS ?_;clear hinv;intro hinv
     try simp only [Act.put,HeldZ.sm] at hinv |-
     have HO4:=Zz (HOS.o.below (hB31.mono HBl.o));have f2:=HO4.o.free 2;have e2:=HO4.o.c2;refine HeldZ.one 17 hinv (by kernel_rfl) rfl rfl ?_;clear hinv;intro _ K hK;go_simp;refine hK _ _ (fun h=>absurd rfl h) ?_;refine HeldZ.done (by kernel_rfl) ?_ _;have HOSn:=Zz (HO4.o.set2 (.slice A3 X3.length c3));have HEn:=Zz (ob_set (o:=2) (v:=.slice A3 X3.length c3) (ob_below HEM.o hB31));have HXn:=Zz (Made.own_set_other (g:=w.heap.size) (o:=2) (u:=.slice A3 X3.length c3) HO3.o HBl.o);have HBn:Hid (B1 <= (w3.setCell ⟨w.heap.size,2,none⟩ (.slice A3 X3.length c3)).heap.size):=Zz (by have:=hB31.size;have:=HBs.o;simp;omega);clear hS hK K HO4 f2 e2 hB31 hB21 hB2 hb2 hb3 k1 HOS HEM HXo HO3 hz2;go_wp2;go_roundw
     case rel=>exact ⟨k + 1,c3,A3,X3,by go_num,by omega,Zz ⟨HOSn.o,HEn.o,HXn.o,HX3.o,HBn.o⟩⟩
     case measure=>simp [intOf];omega
    ·
     have hd2:decide (k < E.length) = false:=dF hlt2;have HXE:Hid (X = FrontW.strs (E.map shown)):=Zz (by rw [HJ.o.2.2.2.1,List.take_of_length_le (by rw [List.length_map];omega)]);have HXl:Hid (X.length = E.length):=Zz (by rw [HXE.o,FrontW.strs_len,List.length_map]);obtain ⟨B2,hB2⟩:∃ B2,B2 = wr.heap.size:=⟨_,rfl⟩;have HBl2:Hid (w.heap.size < B2):=Zz (by rw [hB2];exact HJ.o.1.lt);have HOS2:=Zz HJ.o.1;have HEM2:Hid (termK.sl.M wr (OB w B2) E [.slice AE E.length cE]):=Zz (by rw [hB2];exact ob_mono HJ.o.2.1 HJ.o.2.2.2.2);have HXM2:Hid (strK.sl.M wr (OB w B2) X [.slice A2 X.length c2]):=Zz (by rw [hB2];exact ob_own Clones.any_str HJ.o.2.2.1 HBl.o);have HB2s:Hid (B2 <= wr.heap.size):=Zz (by rw [hB2];exact lR _);have HY0:Hid (idsK.own 40 wr B2 Made.FF (.slice none 0 0) ([]:List Ids)):=Zz (Kd.own_nil _ _ _ _ _);have HYe:Hid (([]:List Ids) = (idsT l).take 0):=Zz (by simp);have HIl:Hid ((idsT l).length = l.length):=Zz (StoreP.ids_len l);clear HJ hB2;go_wp2;go_loopw [6] (fun vi wr=>∃ (m c3:Nat) (A3:Option Addr) (Y:List Ids),vi = .int .i64 m/\m <= l.length/\Hid (OS w wr (.slice A l.length c) (.slice AE E.length cE) (.slice A2 X.length c2) (.slice A3 Y.length c3)/\termK.sl.M wr (OB w B2) E [.slice AE E.length cE]/\strK.sl.M wr (OB w B2) X [.slice A2 X.length c2]/\idsK.own 40 wr B2 Made.FF (.slice A3 Y.length c3) Y/\Y = (idsT l).take m/\B2 <= wr.heap.size)) (fun vi _=>l.length - (intOf vi).toNat)
     case atStart=>exact ⟨0,0,none,[],rfl,by omega,Zz ⟨HOS2.o,HEM2.o,HXM2.o,HY0.o,HYe.o,HB2s.o⟩⟩
     case round =>
      obtain ⟨m,c3,A3,Y,rfl,hm,HJ⟩:=hrel;clear HOS2 HEM2 HXM2 HY0 HYe HB2s k1;by_cases hlt3:m < l.length
      ·
       have hd3:decide (m < l.length) = true:=dT hlt3;have ik3:(m:Int) < (l.length:Int):=by omega
       obtain ⟨b,off,rfl,hbs,hcells⟩:=HRow.o m hlt3;obtain ⟨t,ht⟩:∃ t,t = l[m]:=⟨_,rfl⟩;have hcx:=(hcells m hlt3).below HJ.o.1.bel;rw [<- ht] at hcx;have hti:t ∈ l:=by rw [ht];exact Zm hlt3
       have hsn:=Made.idsT_snoc l m hlt3;rw [<- ht,<- HJ.o.2.2.2.2.1] at hsn;have HFit:Hid (FitsI (idsOf (termsT l) t)):=Zz (by
        obtain ⟨q1,q2,q3⟩:=Made.good_ids HV.o hl100 (idsOf (termsT l) t) (List.mem_map.2 ⟨t,hti,rfl⟩);unfold FitsI;omega)
       have HIds:Hid (idsOf (termsT l) t = ⟨idOf E t.s,idOf E t.p,idOf E t.o⟩):=Zz (by rw [HEt.o];rfl);rw [HIds.o] at hsn HFit;have HSn:=Zz hsn;have hYl:Y.length <= 100:=by rw [HJ.o.2.2.2.2.1,Zi];omega
       have HOS:=Zz HJ.o.1;have HEM:=Zz HJ.o.2.1;have HXM:=Zz HJ.o.2.2.1;have HYo:=Zz HJ.o.2.2.2.1;have HBs:=Zz HJ.o.2.2.2.2.2;have HD:=Zz (fun W (hW:Below B2 wr W) y=>id11_calls E y w.heap.size AE cE W ((hW.cell (p:=⟨w.heap.size,1,none⟩) HBl2.o).trans HOS.o.c1) (Kd.M_bound (ob_below HEM.o hW)) (by omega));have HD1:=Zz (fun W hW=>HD.o W hW t.s);have HD2:=Zz (fun W hW=>HD.o W hW t.p);have HD3:=Zz (fun W hW=>HD.o W hW t.o);have hbw:b < w.heap.size:=hbs;clear hcells ht hti hsn HJ HD HIds;generalize idOf E t.s = d1 at *;generalize idOf E t.p = d2 at *;generalize idOf E t.o = d3 at *;obtain ⟨⟨sk,sx,se⟩,⟨pk,px,pe⟩,⟨ok',ox,oe⟩⟩:=t;unfold Ref5.termV at HD1 HD2 HD3;dsimp only at HD1 HD2 HD3;have HK:Hid (∀ w',Below B2 wr w' -> w'.cell? ⟨w.heap.size,3,none⟩ = some (Value.slice A3 Y.length c3)/\w'.cell? ⟨b,off + m * 9,none⟩ = some (Value.int .i64 sk)/\w'.cell? ⟨b,off + m * 9 + 1,none⟩ = some (Value.string (mkS sx))/\w'.cell? ⟨b,off + m * 9 + 2,none⟩ = some (Value.string (mkS se))/\w'.cell? ⟨b,off + m * 9 + 3,none⟩ = some (Value.int .i64 pk)/\w'.cell? ⟨b,off + m * 9 + 4,none⟩ = some (Value.string (mkS px))/\w'.cell? ⟨b,off + m * 9 + 5,none⟩ = some (Value.string (mkS pe))/\w'.cell? ⟨b,off + m * 9 + 6,none⟩ = some (Value.int .i64 ok')/\w'.cell? ⟨b,off + m * 9 + 7,none⟩ = some (Value.string (mkS ox))/\w'.cell? ⟨b,off + m * 9 + 8,none⟩ = some (Value.string (mkS oe))):=Zz (fun w' hb=>by
        obtain ⟨z0,z1,z2,z3,z4,z5,z6,z7,z8⟩:=hcx.moved (hb.block b (Nat.lt_trans hbw HBl2.o));exact ⟨(hb.cell (p:=⟨w.heap.size,3,none⟩) HBl2.o).trans HOS.o.c3,z0,z1,z2,z3,z4,z5,z6,z7,z8⟩)
       clear hcx;go_upto_region 13 with fail
       refine HeldZ.region (fun w'=>w'.cell? ⟨w.heap.size,3,none⟩ = some (Value.slice A3 Y.length c3)/\w'.cell? ⟨b,off + m * 9,none⟩ = some (Value.int .i64 sk)/\w'.cell? ⟨b,off + m * 9 + 1,none⟩ = some (Value.string (mkS sx))/\w'.cell? ⟨b,off + m * 9 + 2,none⟩ = some (Value.string (mkS se))/\w'.cell? ⟨b,off + m * 9 + 3,none⟩ = some (Value.int .i64 pk)/\w'.cell? ⟨b,off + m * 9 + 4,none⟩ = some (Value.string (mkS px))/\w'.cell? ⟨b,off + m * 9 + 5,none⟩ = some (Value.string (mkS pe))/\w'.cell? ⟨b,off + m * 9 + 6,none⟩ = some (Value.int .i64 ok')/\w'.cell? ⟨b,off + m * 9 + 7,none⟩ = some (Value.string (mkS ox))/\w'.cell? ⟨b,off + m * 9 + 8,none⟩ = some (Value.string (mkS oe))) 31 32 #[false,false,false,false,false,false,false,false,false,false,false,false,false,false,false,false,false,false,false,false,false,false,false,false,false,false,false,false,false,false,false,false] (by kernel_rfl) rfl rfl ?_;intro hinv;have hB0:Below B2 wr wr.drew:=(bel_drew (bR wr.heap.size wr)).mono HBs.o;have hS:=HK.o wr.drew hB0;refine HeldZ.tk 0 hinv hS ?_;clear hinv;intro hinv
       try simp only [Act.put,HeldZ.sm] at hinv |-
       refine HeldZ.tk 1 hinv hS ?_;clear hinv;intro hinv
       try simp only [Act.put,HeldZ.sm] at hinv |-
       refine HeldZ.tk 2 hinv hS ?_;clear hinv;intro hinv
       try simp only [Act.put,HeldZ.sm] at hinv |-
       refine HeldZ.tk 3 hinv hS ?_;clear hinv;intro hinv
       try simp only [Act.put,HeldZ.sm] at hinv |-
       refine HeldZ.tk 4 hinv hS ?_;clear hinv;intro hinv
       try simp only [Act.put,HeldZ.sm] at hinv |-
       refine HeldZ.tk 5 hinv hS ?_;clear hinv;intro hinv
       try simp only [Act.put,HeldZ.sm] at hinv |-
       refine HeldZ.tk 6 hinv hS ?_;clear hinv;intro hinv
       try simp only [Act.put,HeldZ.sm] at hinv |-
       refine HeldZ.tk 7 hinv hS ?_;clear hinv;intro hinv
       try simp only [Act.put,HeldZ.sm] at hinv |-
       refine HeldZ.tk 8 hinv hS ?_;clear hinv;intro hinv
       try simp only [Act.put,HeldZ.sm] at hinv |-
       refine HeldZ.tk 9 hinv hS ?_;clear hinv;intro hinv
       try simp only [Act.put,HeldZ.sm] at hinv |-
       refine HeldZ.tk 10 hinv hS ?_;clear hinv;intro hinv
       try simp only [Act.put,HeldZ.sm] at hinv |-
       refine HeldZ.tk 12 hinv hS ?_;clear hinv;intro hinv
       try simp only [Act.put,HeldZ.sm] at hinv |-
       refine HeldZ.tk 13 hinv hS ?_;clear hinv;intro hinv
       try simp only [Act.put,HeldZ.sm] at hinv |-
       refine HeldZ.tk 14 hinv hS ?_;clear hinv;intro hinv
       try simp only [Act.put,HeldZ.sm] at hinv |-
       refine HeldZ.tk 15 hinv hS ?_;clear hinv;intro hinv
       try simp only [Act.put,HeldZ.sm] at hinv |-
       refine HeldZ.tk 16 hinv hS ?_;clear hinv;intro hinv
       try simp only [Act.put,HeldZ.sm] at hinv |-
       refine HeldZ.tk 17 hinv hS ?_;clear hinv;intro hinv
       try simp only [Act.put,HeldZ.sm] at hinv |-
       refine HeldZ.tk 19 hinv hS ?_;clear hinv;intro hinv
       try simp only [Act.put,HeldZ.sm] at hinv |-
       refine HeldZ.tk 20 hinv hS ?_;clear hinv;intro hinv
       try simp only [Act.put,HeldZ.sm] at hinv |-
       refine HeldZ.tk 21 hinv hS ?_;clear hinv;intro hinv
       try simp only [Act.put,HeldZ.sm] at hinv |-
       refine HeldZ.tk 22 hinv hS ?_;clear hinv;intro hinv
       try simp only [Act.put,HeldZ.sm] at hinv |-
       refine HeldZ.tk 23 hinv hS ?_;clear hinv;intro hinv
       try simp only [Act.put,HeldZ.sm] at hinv |-
       refine HeldZ.tk 24 hinv hS ?_;clear hinv;intro hinv
       try simp only [Act.put,HeldZ.sm] at hinv |-
       refine HeldZ.ow 11 hinv ?_;clear hinv;intro hinv K hK;go_simp;refine (HD1.o _ hB0).mono ?_;rintro e w2 ⟨rfl,hbc1⟩;have hBw2:Below wr.heap.size wr w2:=bel_step (bel_drew (bR _ _)) hbc1;have hB2:Below B2 wr w2:=hBw2.mono HBs.o;refine hK _ _ (fun _=>HK.o _ hB2) ?_;clear hK K
       try simp only [Act.put,HeldZ.sm] at hinv |-
       refine HeldZ.ow 18 hinv ?_;clear hinv;intro hinv K hK;go_simp;refine (HD2.o _ hB2).mono ?_;rintro e w3 ⟨rfl,hbc2⟩;have hBw3:Below wr.heap.size wr w3:=bel_step hBw2 hbc2;have hB3:Below B2 wr w3:=hBw3.mono HBs.o;refine hK _ _ (fun _=>HK.o _ hB3) ?_;clear hK K
       try simp only [Act.put,HeldZ.sm] at hinv |-
       refine HeldZ.ow 25 hinv ?_;clear hinv;intro hinv K hK;go_simp;refine (HD3.o _ hB3).mono ?_;rintro e w4 ⟨rfl,hbc3⟩;have hBw4:Below wr.heap.size wr w4:=bel_step hBw3 hbc3;have hB4:Below B2 wr w4:=hBw4.mono HBs.o;refine hK _ _ (fun _=>HK.o _ hB4) ?_;clear hK K
       try simp only [Act.put,HeldZ.sm] at hinv |-
       clear hS;have hS:=HK.o _ hB4;refine HeldZ.tk 26 hinv hS ?_;clear hinv;intro hinv
       try simp only [Act.put,HeldZ.sm] at hinv |-
       refine HeldZ.ow 27 hinv ?_;clear hinv;intro hinv K hK;go_simp;have hz4:B2 <= w4.heap.size:=Zh HBs.o hB4.size;refine hK _ _ (fun _=>HK.o _ (hB4.trans ((bel_alloc (bR _ _) _).mono hz4))) ?_;clear hK K
       try simp only [Act.put,HeldZ.sm] at hinv |-
       refine HeldZ.oneL 28 hinv (by kernel_rfl) rfl rfl ?_;clear hinv;intro hinv K hK;have hinv:=hinv (by decide);refine Kd.own_app_step idsK (w0:=w4) B2 (by rfl) (.tmp 77) (.tmp 100) 48 40 Clones.zero_ids 24 (by rfl) underlying48 Clones.info_ids rfl (by decide) (.slice A3 Y.length c3) Y [⟨d1,d2,d3⟩] (some ⟨w4.heap.size,0,none⟩) 1 Made.FF (by rfl) (by rfl) ?ho (.inr ⟨?hr,Clones.any_ids⟩) ?hbb ?hs ?hl ?_
       case ho=>exact Kd.own_alloc (Kd.own_below HYo.o hBw4) _
       case hr=>exact one_ids w4 ⟨d1,d2,d3⟩ HFit.o
       case hbb=>exact (bel_alloc (bR _ _) _).mono hz4
       case hs=>simp;omega
       case hl=>simp;omega
       intro v1 w5 ho3 hb3 hg3 hv3;rw [HSn.o] at ho3;obtain ⟨Y3,hY3⟩:∃ Y3,Y3 = (idsT l).take (m + 1):=⟨_,rfl⟩;rw [<- hY3] at ho3;have HY3:=Zz hY3;have HO3:=Zz ho3;obtain ⟨A5,c5,rfl,_,_⟩:=Kd.own_slice ho3;have hB5:Below B2 wr w5:=hB4.trans hb3;refine hK _ _ (fun _=>HK.o _ hB5) ?_;clear hK K hY3 ho3 hg3 hv3
       try simp only [Act.put,HeldZ.sm] at hinv |-
       clear hS;have hS:=HK.o _ hB5;refine HeldZ.tk 29 hinv hS ?_;clear hinv;intro hinv
       try simp only [Act.put,HeldZ.sm] at hinv |-
       refine HeldZ.tk 30 hinv hS ?_;clear hinv;intro hinv
       try simp only [Act.put,HeldZ.sm] at hinv |-
       have HO4:=Zz (HOS.o.below (hB5.mono HBl2.o));have f3:=HO4.o.free 3;have e3:=HO4.o.c3;refine HeldZ.one 31 hinv (by kernel_rfl) rfl rfl ?_;clear hinv;intro _ K hK;go_simp;refine hK _ _ (fun h=>absurd rfl h) ?_;refine HeldZ.done (by kernel_rfl) ?_ _;have HOSn:=Zz (HO4.o.set3 (.slice A5 Y3.length c5));have HEn:=Zz (ob_set (o:=3) (v:=.slice A5 Y3.length c5) (ob_below HEM.o hB5));have HXn:=Zz (ob_set (o:=3) (v:=.slice A5 Y3.length c5) (ob_below HXM.o hB5));have HYn:=Zz (Made.own_set_other (g:=w.heap.size) (o:=3) (u:=.slice A5 Y3.length c5) HO3.o HBl2.o);have HBn:Hid (B2 <= (w5.setCell ⟨w.heap.size,3,none⟩ (.slice A5 Y3.length c5)).heap.size):=Zz (by have:=hB5.size;have:=HBs.o;simp;omega);clear hS hK K HO4 f3 e3 hB5 hB4 hB0 hb3 HOS HEM HXM HYo HO3 hz4 hBw4 hBw2 hBw3 hB2 hB3;go_wp2;go_roundw
       case rel=>exact ⟨m + 1,c5,A5,Y3,by go_num,by omega,Zz ⟨HOSn.o,HEn.o,HXn.o,HYn.o,HY3.o,HBn.o⟩⟩
       case measure=>simp [intOf];omega
      ·
       have hd3:decide (m < l.length) = false:=dF hlt3;have HYE:Hid (Y = idsT l):=Zz (by rw [HJ.o.2.2.2.2.1,List.take_of_length_le (by rw [HIl.o];omega)]);have HR:Hid (RefAt wr (fun _=>True) w.heap.size l):=Zz (by
        obtain ⟨hos,hem,hxm,hyo,_,_⟩:=HJ.o;have ey:=HYE.o;have ex:=HXE.o;have exl:=HXl.o;have ee:=HEt.o;refine ⟨⟨A,c,hos.c0,triK.sl.mono (fun _ _ _=>trivial) (Kd.M_below HM.o hos.bel)⟩,⟨AE,cE,?_,?_⟩,⟨A2,c2,?_,?_⟩,⟨A3,c3,?_,?_⟩⟩
        ·
         rw [<- ee];exact hos.c1
        ·
         rw [<- ee];exact termK.sl.mono (fun _ _ _=>trivial) hem
        ·
         rw [<- ee,<- exl];exact hos.c2
        ·
         have h1:=strK.sl.mono (ok':=fun _=>True) (fun _ _ _=>trivial) hxm;rw [exl,ex,ee] at h1;exact h1
        ·
         rw [<- HIl.o,<- ey];exact hos.c3
        ·
         have h1:=Kd.own_sl (ok':=fun _=>True) hyo (fun _ _=>trivial) (fun _ _=>trivial);rw [ey,HIl.o] at h1;exact h1)
       have HBf:=Zz HJ.o.1.bel;clear HJ;go_wp2;go_ret;exact ⟨⟨_,rfl,HR.o⟩,HBf.o⟩
end RefOf
namespace Ref2
open Go.RowKit Go.Lib B Rd PackW StoreW
theorem width_calls (n:Nat) (hn:n <= 9223372036854775807) (w:World):Calls Tryz.prog 77 #[.int .i64 n] w fun e w'=>e = .returned (.int .i64 (Lib.bitLen n:Nat))/\w = w':=by
 have HBn:Hid (Lib.bitLen n <= 64):=Zz (Lib.bitLen_le n 64 (by decide) (by omega));go_enter func77,ntmps77;go_wp2;go_loopw [0,3] (fun v0 v3 wr=>∃ x k:Nat,v0 = .int .i64 x/\v3 = .int .i64 k/\x <= n/\k <= 64/\Hid (k + Lib.bitLen x = Lib.bitLen n/\wr = w)) (fun v0 _ _=>(intOf v0).toNat)
 case atStart=>exact ⟨n,0,rfl,rfl,lR _,by decide,Zz ⟨Nat.zero_add _,rfl⟩⟩
 case round =>
  obtain ⟨x,k,rfl,rfl,hx,hk,HI⟩:=hrel;by_cases hlt:0 < x
  ·
   have hd:decide ((0:Int) < (x:Int)) = true:=dT (by omega);have hh:=Zz (Lib.bitLen_half x (by omega) (by omega));go_wp2;go_roundw
   case rel=>exact ⟨x / 2,k + 1,by go_num,by go_num,by omega,by have:=HBn.o;have:=hh.o;have:=HI.o.1;omega,Zz ⟨by have:=hh.o;have:=HI.o.1;omega,HI.o.2⟩⟩
   case measure=>simp [intOf];omega
  ·
   have hd:decide ((0:Int) < (x:Int)) = false:=dF (by omega);obtain rfl:x = 0:=by omega
   have hz:k = Lib.bitLen n:=by have:=HI.o.1;simpa [Lib.bitLen,Lib.bitLenAux] using this
   subst hz;go_wp2;go_ret;exact ⟨rfl,HI.o.2.symm⟩
theorem int_at {w:World} {l:List Nat} {A:Option Addr} {c:Nat} (h:intK.sl.M w (fun k=>k < w.heap.size) (natZ l) [.slice A l.length c]) (hp:0 < l.length):∃ b off,A = some ⟨b,off,none⟩/\b < w.heap.size/\∀ i (hi:i < l.length),w.cell? ⟨b,off + i,none⟩ = some (.int .i64 (l[i]:Nat)):=by
 obtain ⟨b,off,h1,h2,_,h3⟩:=PackW.int_cells h hp;exact ⟨b,off,h1,h2,h3⟩
theorem may_calls (l:List Nat) (wd:Nat) (hw:wd <= 20) (hl:l.length <= 1000) (hn:∀ n ∈ l,n <= 2000000/\Lib.bitLen n <= wd) (A:Option Addr) (c:Nat) (w:World) (HL:intK.sl.M w (fun k=>k < w.heap.size) (natZ l) [.slice A l.length c]) :
  Calls Tryz.prog 37 #[.slice A l.length c,.int .i64 wd] w fun e w'=>e = .returned (.bool true)/\w = w':=by
 have HRow:=Zz (fun hp=>int_at HL hp);have HN:=Zz hn;clear HL hn;go_enter func37,ntmps37;have q1:decide ((wd:Int) < 0) = false:=dF (by omega);go_wp2;go_loopw [5] (fun vi wr=>∃ i:Nat,vi = .int .i64 i/\i <= l.length/\Hid (wr = w)) (fun vi _=>l.length - (intOf vi).toNat)
 case atStart=>exact ⟨0,rfl,by omega,Zz rfl⟩
 case round =>
  obtain ⟨i,rfl,hi,HI⟩:=hrel;obtain rfl:=HI.o;clear HI;by_cases hlt:i < l.length
  ·
   have hd:decide (i < l.length) = true:=dT hlt;have ik:(i:Int) < (l.length:Int):=by omega
   obtain ⟨b,off,rfl,hbs,hcells⟩:=HRow.o (by omega);have hc:=hcells i hlt;obtain ⟨n,hne⟩:∃ n,n = l[i]:=⟨_,rfl⟩;rw [<- hne] at hc;obtain ⟨hnb,hnw⟩:=HN.o n (by rw [hne];exact Zm hlt);have HW:=Zz (fun w=>width_calls n (by omega) w);obtain ⟨q,hq⟩:∃ q,q = Lib.bitLen n:=⟨_,rfl⟩;rw [<- hq] at HW hnw;have hn0:decide ((n:Int) < 0) = false:=dF (by omega);have hqw:decide ((wd:Int) < (q:Int)) = false:=dF (by omega);clear hcells hne hq;go_wp2_with fail;refine (HW.o _).mono ?_;rintro e w4 ⟨rfl,rfl⟩;go_wp2;go_roundw
   case rel=>exact ⟨i + 1,by go_num,by omega,Zz (by simp)⟩
   case measure=>simp [intOf];omega
  ·
   have hd:decide (i < l.length) = false:=dF hlt;go_wp2;go_ret;exact ⟨rfl,rfl⟩
theorem pack_calls (l:List Nat) (wd:Nat) (hw:wd <= 20) (hl:l.length <= 1000) (hn:∀ n ∈ l,n <= 2000000/\Lib.bitLen n <= wd) (A:Option Addr) (c:Nat) (w:World) (HL:intK.sl.M w (fun k=>k < w.heap.size) (natZ l) [.slice A l.length c]) :
  Calls Tryz.prog 39 #[.slice A l.length c,.int .i64 wd] w fun e w'=>(∃ v,e = .returned (.tuple #[v,.int .i64 0])/\byteK.own 5 w' w.heap.size TT v (packB l wd))/\Below w.heap.size w w':=by
 have HRow:=Zz (fun hp=>int_cells HL hp);have HN:=Zz hn;obtain ⟨m,hm⟩:∃ m,m = l.length * wd:=⟨_,rfl⟩;have hmul:(l.length:Int) * (wd:Int) = (m:Int):=by rw [hm];rfl
 have hmb:m <= 20000:=by rw [hm];exact Zh (Nat.mul_le_mul hl hw) (by decide)
 have hwm:IntKind.i64.wrap (m:Int) = (m:Int):=by rw [Zw];omega
 have HM:=Zz hm;obtain ⟨sz,hsz⟩:∃ sz,sz = (m + 7) / 8:=⟨_,rfl⟩;have hszb:sz <= 2501:=by omega
 have HSz:=Zz hsz;have hdiv:((m:Int) + 7) / 8 = (sz:Int):=by omega
 have HF:=Zz (may_calls l wd hw hl hn A c w HL);have hmk:=run_make_row' (P:=Tryz.prog) 55 5 (.int .u8 0) 1 underlying55 info_u8 rfl .i64 .i64 sz (by omega) (by omega);have HB0:Hid (Below w.heap.size w (w.alloc (.cells (madeCells #[.int .u8 0] sz) 5))):=Zz (bel_alloc (bR _ _) _);have HO0:Hid (byteK.own 5 (w.alloc (.cells (madeCells #[.int .u8 0] sz) 5)) w.heap.size TT (.slice (some ⟨w.heap.size,0,none⟩) sz sz) (packF l wd 0)):=Zz (by
  rw [packF,<- HM.o,<- HSz.o];exact made_row (lR _) (by omega) (Kd.heap_new _ _))
 generalize madeCells #[.int .u8 0] sz = C0 at *;clear HL hn hm hsz;go_enter func39,ntmps39;go_wp2_with fail;refine HF.o.mono ?_;rintro e w2 ⟨rfl,rfl⟩;go_wp2;go_loopw [7] (fun vi wr=>∃ i:Nat,vi = .int .i64 i/\i <= l.length/\Hid (byteK.own 5 wr w.heap.size TT (.slice (some ⟨w.heap.size,0,none⟩) sz sz) (packF l wd i)/\Below w.heap.size w wr)) (fun vi _=>l.length - (intOf vi).toNat)
 case atStart=>exact ⟨0,rfl,by omega,Zz ⟨HO0.o,HB0.o⟩⟩
 case round =>
  obtain ⟨i,rfl,hiL,HI⟩:=hrel;clear HO0 HB0 hmk;by_cases hlt:i < l.length
  ·
   have hd:decide (i < l.length) = true:=dT hlt;have ik:(i:Int) < (l.length:Int):=by omega
   obtain ⟨b,off,rfl,hbs,_,hcells⟩:=HRow.o (by omega);have hc:=(HI.o.2.cell (p:=⟨b,off + i,none⟩) hbs).trans (hcells i hlt);obtain ⟨n,hne⟩:∃ n,n = l[i]:=⟨_,rfl⟩;rw [<- hne] at hc;obtain ⟨hnb,hnw⟩:=HN.o n (by rw [hne];exact Zm hlt);obtain ⟨P0,hP0⟩:∃ P0,P0 = packF l wd i:=⟨_,rfl⟩;have HNext:Hid (packF l wd (i + 1) = packNum P0 (i * wd) n wd):=Zz (by rw [packF,<- hP0,hne,Zg hlt];rfl);have HLen:Hid (P0.length = sz):=Zz (by rw [hP0,packF_len,<- HM.o,<- HSz.o]);have HOi:Hid (byteK.own 5 wr w.heap.size TT (.slice (some ⟨w.heap.size,0,none⟩) sz sz) (packNum P0 (i * wd) n 0)):=Zz (by rw [packNum,hP0];exact HI.o.1);have HBi:=Zz HI.o.2;obtain ⟨fr,hfr⟩:∃ fr,fr = i * wd:=⟨_,rfl⟩;have hfri:(i:Int) * (wd:Int) = (fr:Int):=by rw [hfr];rfl
   have hfrb:fr + wd <= m:=by
    rw [hfr,HM.o];have:=Nat.mul_le_mul_right wd (show i + 1 <= l.length from hlt);rw [Nat.succ_mul] at this;exact this
   rw [<- hfr] at HNext HOi;have HNE:=Zz hne;have HCE:=Zz hcells;clear hP0 hfr hne hcells hc;go_wp2;go_loopw [8] (fun vk wx=>∃ k:Nat,vk = .int .i64 k/\k <= wd/\Hid (byteK.own 5 wx w.heap.size TT (.slice (some ⟨w.heap.size,0,none⟩) sz sz) (packNum P0 fr n k)/\Below w.heap.size w wx)) (fun vk _=>wd - (intOf vk).toNat)
   case atStart=>exact ⟨0,rfl,by omega,Zz ⟨HOi.o,HBi.o⟩⟩
   case round =>
    obtain ⟨k,rfl,hkw,HK⟩:=hrel;clear HOi HBi;by_cases hkl:k < wd
    ·
     have hd2:decide (k < wd) = true:=dT hkl;have hcn:=(HK.o.2.cell (p:=⟨b,off + i,none⟩) hbs).trans (HCE.o i hlt);rw [<- HNE.o] at hcn;have hku:IntKind.u64.wrap (k:Int) = (k:Int):=by rw [IntKind.wrap_u64];omega
     have hku2:IntKind.u64.wrap (((fr + k) % 8:Nat):Int) = (((fr + k) % 8:Nat):Int):=by rw [IntKind.wrap_u64];omega
     have hjs:(fr + k) / 8 < sz:=by have:=HSz.o;omega
     have jz:(((fr + k) / 8:Nat):Int) < (sz:Int):=by omega
     have hlen:(packNum P0 fr n k).length = sz:=by rw [packNum_len,HLen.o]
     obtain ⟨u,hcu,hu⟩:=Kd.own_cell (i:=(fr + k) / 8) rfl HK.o.1 (by omega);obtain ⟨x,hx⟩:∃ x:UInt8,x = (packNum P0 fr n k)[(fr + k) / 8]'(by omega):=⟨_,rfl⟩;obtain rfl:u = .int .u8 (x.toNat:Int):=by rw [hx];simpa [byteK,flat] using hu
     obtain ⟨z,hz⟩:∃ z,z = bitAt n k:=⟨_,rfl⟩;have hand:=and_at n k (by omega);rw [<- hz] at hand;have hor:=or_at x z ((fr + k) % 8);obtain ⟨y,hy⟩:∃ y,y = x ||| UInt8.ofNat (z * 2 ^ ((fr + k) % 8)):=⟨_,rfl⟩
     rw [<- hy] at hor;have HSet:Hid (∀ w2,Below wr.heap.size wr w2 -> byteK.own 5 (w2.setCell ⟨w.heap.size,(fr + k) / 8,none⟩ (.int .u8 (y.toNat:Int))) w.heap.size TT (.slice (some ⟨w.heap.size,0,none⟩) sz sz) (packNum P0 fr n (k + 1))/\Below w.heap.size w (w2.setCell ⟨w.heap.size,(fr + k) / 8,none⟩ (.int .u8 (y.toNat:Int)))/\w2.cell? ⟨w.heap.size,(fr + k) / 8,none⟩ = some (.int .u8 (x.toNat:Int))/\w2.frozen? ⟨w.heap.size,(fr + k) / 8,none⟩ = false):=Zz (fun w2 hb2=>by
      have h1:=Kd.own_below HK.o.1 hb2;have h2:=Kd.own_set (u:=.int .u8 (y.toNat:Int)) rfl h1 (i:=(fr + k) / 8) (by omega) (x:=y) rfl;have e:packNum P0 fr n (k + 1) = (packNum P0 fr n k).set ((fr + k) / 8) y:=by
       rw [packNum,orAt,<- hz,Zg (by omega),<- hx,hy]
       try rfl
      rw [e];have hgl:=cell_lt hcu;exact ⟨h2,bel_set (bel_step HK.o.2 hb2) (lR _) _,(hb2.cell (p:=⟨w.heap.size,(fr + k) / 8,none⟩) hgl).trans hcu,Kd.own_frozen h1 _⟩)
     have hcp:=fun p:QT.Bel wr=>p.cell hcu
     have hcq:=fun p:QT.Bel wr=>p.cell hcn
     clear hu hx hz hy;go_upto_region 11 with fail
     refine QT.region_bel 23 (by kernel_rfl) (by kernel_rfl) ?_;simp only [List.take_succ_cons,List.take_zero,List.drop_succ_cons,List.drop_zero]
     iterate 23 (go_big_quiet_step (fail))
     refine wpQuiet_nil ?_;intro w2 hw';obtain ⟨⟨_,hb2⟩,rfl⟩:=hw';obtain ⟨h1,h2,hc2,hf2⟩:=HSet.o w2 hb2;have HN1:=Zz h1;have HN2:=Zz h2;clear h1 h2 hb2 HSet hcp hcq hcu hcn HK;go_wp2;go_roundw
     case rel=>exact ⟨k + 1,by go_num,by omega,Zz ⟨HN1.o,HN2.o⟩⟩
     case measure=>simp [intOf];omega
    ·
     have hd2:decide (k < wd) = false:=dF hkl;obtain rfl:k = wd:=by omega
     have HK2:Hid (byteK.own 5 wr w.heap.size TT (.slice (some ⟨w.heap.size,0,none⟩) sz sz) (packF l k (i + 1))):=Zz (by rw [HNext.o];exact HK.o.1);have HB2:=Zz HK.o.2;clear HK;go_wp2;go_roundw
     case rel=>exact ⟨i + 1,by go_num,by omega,Zz ⟨HK2.o,HB2.o⟩⟩
     case measure=>simp [intOf];omega
  ·
   have hd:decide (i < l.length) = false:=dF hlt;obtain rfl:i = l.length:=by omega
   have HI2:=Zz HI.o;clear HI;go_wp2;go_ret2;exact ⟨⟨_,rfl,HI2.o.1⟩,HI2.o.2⟩
end Ref2
namespace Ref6
open Go.RowKit Go.Lib B Rd StoreW Clones FrontP FrontW
theorem shared_calls (a b:List UInt8) (ha:a.length <= 140737488355328) (hb:b.length <= 140737488355328) (w:World):Calls Tryz.prog 82 #[.string (mkS a),.string (mkS b)] w fun e w'=>e = .returned (.int .i64 (shared a b:Nat))/\Below w.heap.size w w':=by
 have za:=mkS_size a;have zb:=mkS_size b;have HS:=Zz (shared_at a b);obtain ⟨v,hv⟩:∃ v,v = shared a b:=⟨_,rfl⟩;rw [<- hv] at HS;rw [<- hv];clear hv;go_enter func82,ntmps82;go_wp2;go_loopw [5] (fun vn wr=>∃ n:Nat,vn = .int .i64 n/\n <= a.length/\n <= b.length/\Hid (a.take n = b.take n/\Below w.heap.size w wr)) (fun vn _=>a.length - (intOf vn).toNat)
 case atStart=>exact ⟨0,rfl,by omega,by omega,Zz ⟨rfl,bR _ _⟩⟩
 case round =>
  obtain ⟨n,rfl,hna,hnb,HI⟩:=hrel;have HBd:=Zz (fun q=>bel_drewN HI.o.2 q);by_cases h1:n < a.length
  ·
   have d1:decide (n < a.length) = true:=dT h1;have e1:decide ((n:Int) < (a.length:Int)) = true:=dT (by omega);by_cases h2:n < b.length
   ·
    have d2:decide (n < b.length) = true:=dT h2;have e2:decide ((n:Int) < (b.length:Int)) = true:=dT (by omega);have ka:n < (mkS a).size:=by rw [za];exact h1
    have kb:n < (mkS b).size:=by rw [zb];exact h2
    have ga:(mkS a)[n]'ka = a[n]:=Rd.mkS_get a n ka h1;have gb:(mkS b)[n]'kb = b[n]:=Rd.mkS_get b n kb h2;obtain ⟨x,hx⟩:∃ x,x = a[n]:=⟨_,rfl⟩;obtain ⟨y,hy⟩:∃ y,y = b[n]:=⟨_,rfl⟩;rw [<- hx] at ga;rw [<- hy] at gb;have jn:(n:Int) < (a.length:Int):=by omega
    have jm:(n:Int) < (b.length:Int):=by omega
    obtain ⟨p,hp⟩:∃ p,p = x.toNat:=⟨_,rfl⟩;obtain ⟨q,hq⟩:∃ q,q = y.toNat:=⟨_,rfl⟩;have hxp:x.toNat = p:=hp.symm;have hyq:y.toNat = q:=hq.symm;by_cases h3:x = y
    ·
     have hpq:((p:Int) == (q:Int)) = true:=by rw [hp,hq,h3];simp
     have hab:a[n] = b[n]:=hx.symm.trans (h3.trans hy);have HN:Hid (a.take (n + 1) = b.take (n + 1)):=Zz ((Zt h1).trans ((congr (congrArg (fun (u:List UInt8) (z:List UInt8)=>u ++ z) HI.o.1) (congrArg (fun (q:UInt8)=>[q]) hab)).trans (Zt h2).symm));clear h3 hx hy hp hq HI;go_upto_region 2 with fail
     go_quiet (fail);go_wp2;go_roundw
     case rel=>exact ⟨n + 1,by go_num,by omega,by omega,Zz ⟨HN.o,HBd.o _⟩⟩
     case measure=>simp [intOf];omega
    ·
     have hpq:((p:Int) == (q:Int)) = false:=by
      rw [Zb,hp,hq];intro h;exact h3 (UInt8.toNat_inj.1 (by omega))
     have HN:Hid (v = n):=Zz (HS.o n hna hnb HI.o.1 (fun _ _ he=>h3 (hx.trans (he.trans hy.symm))));clear h3 hx hy hp hq HI;go_upto_region 2 with fail
     go_quiet (fail);go_wp2;go_ret;exact ⟨by rw [HN.o];rfl,HBd.o _⟩
   ·
    have d2:decide (n < b.length) = false:=dF h2;have e2:decide ((n:Int) < (b.length:Int)) = false:=dF (by omega);have HN:Hid (v = n):=Zz (HS.o n hna hnb HI.o.1 (fun _ h=>absurd h h2));clear HI;go_upto_region 2 with fail
    go_quiet (fail);go_wp2;go_ret;exact ⟨by rw [HN.o];rfl,HBd.o _⟩
  ·
   have d1:decide (n < a.length) = false:=dF h1;have e1:decide ((n:Int) < (a.length:Int)) = false:=dF (by omega);have HN:Hid (v = n):=Zz (HS.o n hna hnb HI.o.1 (fun h _=>absurd h h1));clear HI;go_upto_region 2 with fail
   go_quiet (fail);go_wp2;go_ret;exact ⟨by rw [HN.o];rfl,HBd.o _⟩
theorem conv_m (X:List UInt8) (hX:X.length <= 1000000) (W:World):∃ (cap:Nat) (o:Obj),
  Sem.run Tryz.prog (convert 9 55 (.string (mkS X))) W = .ok (.slice (some ⟨W.heap.size,0,none⟩) X.length cap) (W.drew.alloc o) /\
  byteK.sl.M (W.drew.alloc o) (fun _=>True) X [.slice (some ⟨W.heap.size,0,none⟩) X.length cap]:=by
 obtain ⟨cap,o,h1,h2,h3,h4⟩:=Env.bytes_conv X (by omega) W;refine ⟨cap,o,h3,some ⟨W.heap.size,0,none⟩,cap,rfl,h1,⟨by unfold maxLen at *;omega,h2⟩,fun h=>(by cases h),fun i x hx=>?_⟩;obtain ⟨hi,hx'⟩:=List.getElem?_eq_some_iff.1 hx;refine ⟨_,[.int .u8 (x.toNat:Int)],rfl,trivial,rfl,fun j u hu=>?_⟩
 match j with
 | 0 =>
  simp at hu;subst hu;have h5:=(h4 W.drew rfl i hi).1;rw [hx'] at h5;rw [add_plain];simpa [byteK,flat] using h5
 | j + 1=>simp at hu
theorem bytes_calls (l:List (List UInt8)) (hl:l.length <= 300) (hs:∀ x ∈ l,x.length <= 250) (A:Option Addr) (c:Nat) (w:World) (HL:strK.sl.M w (fun k=>k < w.heap.size) (strs l) [.slice A l.length c]) :
  Calls Tryz.prog 41 #[.slice A l.length c] w fun e w'=>(∃ v,e = .returned v/\byteK.own 5 w' w.heap.size TT v (frontB l))/\Below w.heap.size w w':=by
 have HRow:=Zz (fun hp=>str_cells HL hp);have HS:=Zz hs;have HUp:Hid (∀ k,k <= l.length -> (headN l.length ++ upTo l k).length <= 100000):=Zz (fun k hk=>by
  have h1:=upTo_len hs k hk;have h2:k * (250 + 2) <= 300 * 252:=Nat.mul_le_mul (by omega) (lR _);simp only [Zl,headN,Zc,List.length_nil];omega)
 have HEnd:Hid (headN l.length ++ upTo l l.length = frontB l):=Zz rfl;have HO0:=Zz (head_own w w.heap.size l.length (lR _) (by omega));have HB0:=Zz (bel_alloc (bR w.heap.size w) (.cells #[.int .u8 ((l.length:Int) / 256),.int .u8 ((l.length:Int) % 256)] 5));have HN0:Hid (headN l.length ++ upTo l 0 = headN l.length):=Zz (by simp [upTo]);have qw:(l.length:Int) / 256 % 256 = (l.length:Int) / 256:=by omega
 clear HL hs;go_enter func41,ntmps41;go_wp2;go_loopw [3,4] (fun v3 vk wr=>∃ k:Nat,vk = .int .i64 k/\k <= l.length/\Hid (byteK.own 5 wr w.heap.size TT v3 (headN l.length ++ upTo l k)/\Below w.heap.size w wr)) (fun _ vk _=>l.length - (intOf vk).toNat)
 case atStart=>exact ⟨0,rfl,by omega,Zz ⟨by rw [HN0.o];exact HO0.o,HB0.o⟩⟩
 case round =>
  obtain ⟨k,rfl,hk,HI⟩:=hrel;clear HO0 HB0 HN0 qw;obtain ⟨B1,hB1⟩:∃ B1,B1 = headN l.length ++ upTo l k:=⟨_,rfl⟩;rw [<- hB1] at HI;have HBe:=Zz hB1;clear hB1;obtain ⟨A3,c3,rfl,_,_⟩:=Kd.own_slice HI.o.1;by_cases hlt:k < l.length
  ·
   have hd:decide ((k:Int) < (l.length:Int)) = true:=dT (by omega);have hd2:decide (k < l.length) = true:=dT hlt;have ik:(k:Int) < (l.length:Int):=by omega
   obtain ⟨b,off,rfl,_,hbs,hcells⟩:=HRow.o (by omega);have hgx:=List.getD_eq_getElem?_getD (l:=l) (i:=k) (a:=[]);rw [Zg hlt] at hgx;have HGd:Hid (l.getD k [] = l[k]):=Zz hgx;have hxs:=HS.o _ (Zm hlt);have HCx:Hid (∀ W,Below w.heap.size w W -> W.cell? ⟨b,off + k,none⟩ = some (.string (mkS l[k]))):=Zz (fun W hW=>(hW.cell (p:=⟨b,off + k,none⟩) hbs).trans (hcells k hlt));obtain ⟨x,hx⟩:∃ x,x = l[k]:=⟨_,rfl⟩;rw [<- hx] at HCx HGd hxs;have hcx:=HCx.o wr HI.o.2;have zx:=mkS_size x;clear hgx;by_cases h4:k % 4 = 0
   ·
    have hm4:((k:Int) % 4 != 0) = false:=by simp;omega
    have HO:Hid (outN l k = 0):=Zz (by unfold outN;rw [if_pos h4]);have HO1:=Zz HI.o.1;have HB1:=Zz HI.o.2;clear hcells hx h4 HI;obtain ⟨m,hm⟩:∃ m,m = x.length - 0:=⟨_,rfl⟩;have w1:IntKind.i64.wrap ((x.length:Int) - (0:Int)) = (m:Int):=by rw [Zw];omega
    have w2:(x.length:Int) - (0:Int) = (m:Int):=by omega
    have HTwo:=Zz (fun W=>two_row W 0 m (by omega) (by omega));have hxe:(mkS x).extract 0 x.length = mkS (x.drop 0):=by rw [mkS_extract];congr 1;rw [List.take_of_length_le (by rw [Zj];omega)]
    have hxe2:(mkS x).extract 0 (mkS x).size = mkS (x.drop 0):=by rw [zx];exact hxe
    have HPc:Hid (B1 ++ [UInt8.ofNat 0,UInt8.ofNat m] ++ (x.drop 0) = headN l.length ++ upTo l (k + 1)):=Zz (by
     rw [HBe.o,upTo_succ,piece,HO.o,HGd.o,hm];simp)
    have HLen2:=Zz (HUp.o (k + 1) hlt);rw [<- HPc.o] at HLen2;have hl1:B1.length + 2 <= 100000:=by have:=HLen2.o;simp only [Zl,Zc,List.length_nil] at this |-;omega
    obtain ⟨B2,hB2⟩:∃ B2,B2 = B1 ++ [UInt8.ofNat 0,UInt8.ofNat m]:=⟨_,rfl⟩;rw [<- hB2] at HPc HLen2;have hl2:B2.length + (x.drop 0).length <= 100000:=by have:=HLen2.o;rw [Zl] at this;exact this
    have HB2e:=Zz hB2;obtain ⟨X,hX⟩:∃ X,X = (x.drop 0):=⟨_,rfl⟩;rw [<- hX] at HPc hl2 hxe hxe2;have HConv:=Zz (fun W=>conv_m X (by omega) W);clear HLen2 hm hB2 hX;go_wp2_with (at_builtin;first | (refine Kd.own_app byteK w.heap.size rfl (.tmp 33) (.tmp 44) 55 5 (.int .u8 0) 1 rfl underlying55 PackW.info_u8 rfl (by decide) _ B1 [UInt8.ofNat 0,UInt8.ofNat m] (some ⟨wr.heap.size,0,none⟩) 2 TT (by rfl) (by rfl) (Kd.own_alloc HO1.o _) (.inr ⟨HTwo.o _,any_u8⟩) (bel_alloc HB1.o _) (by have:=HB1.o.size;simp;omega) (by simp;omega) ?_;intro v1 w8 ho1 hb1 hg1 hv1;clear hg1 hv1;rw [<- HB2e.o] at ho1;have HO8:=Zz ho1;have HB8:=Zz hb1;clear ho1 hb1;obtain ⟨A8,c8,rfl,_,_⟩:=Kd.own_slice HO8.o;have hcx8:=HCx.o w8 HB8.o;obtain ⟨cap,o,hcv,hrow⟩:=HConv.o w8;have HRw:=Zz hrow;clear hrow) | (refine Kd.own_app byteK w.heap.size rfl (.tmp 46) (.tmp 53) 55 5 (.int .u8 0) 1 rfl underlying55 PackW.info_u8 rfl (by decide) _ B2 X (some ⟨w8.heap.size,0,none⟩) cap TT (by rfl) (by rfl) (Kd.own_alloc (Kd.own_below HO8.o (bel_drew (bR _ _))) _) (.inr ⟨HRw.o,any_u8⟩) (bel_alloc (bel_drew HB8.o) _) (by have:=HB8.o.size;simp;omega) (by omega) ?_;intro v9 w9 ho2 hb2 hg2 hv2;clear hg2 hv2;rw [HPc.o] at ho2;have HO9:=Zz ho2;have HB9:=Zz hb2;clear ho2 hb2;obtain ⟨A9,c9,rfl,_,_⟩:=Kd.own_slice HO9.o))
    go_wp2;go_roundw
    case rel=>exact ⟨k + 1,by go_num,by omega,Zz ⟨by have h:=HO9.o;rwa [Zl] at h,HB9.o⟩⟩
    case measure=>simp [intOf];omega
   ·
    have hm4:((k:Int) % 4 != 0) = true:=by simp;omega
    obtain ⟨j,hj⟩:∃ j,j = k - 1:=⟨_,rfl⟩;have hwj:IntKind.i64.wrap ((k:Int) - 1) = (j:Int):=by rw [Zw];omega
    have ij:(j:Int) < (l.length:Int):=by omega
    have hjl:j < l.length:=by omega
    have hcy:=(HI.o.2.cell (p:=⟨b,off + j,none⟩) hbs).trans (hcells j hjl);have hgy:=List.getD_eq_getElem?_getD (l:=l) (i:=k - 1) (a:=[]);rw [<- hj,Zg hjl] at hgy;have hys:=HS.o _ (Zm hjl);obtain ⟨y,hy⟩:∃ y,y = l[j]:=⟨_,rfl⟩;rw [<- hy] at hcy hys;have HC:=Zz (fun W=>shared_calls y x (by omega) (by omega) W);have hsr:=shared_right y x;have HO:Hid (outN l k = shared y x):=Zz (by
     unfold outN;rw [if_neg h4,HGd.o,<- hj,hgy,hy];rfl)
    obtain ⟨n,hn⟩:∃ n,n = shared y x:=⟨_,rfl⟩;rw [<- hn] at HC HO hsr;have HI2:=Zz (fun W (h:Below wr.heap.size wr W)=>(⟨Kd.own_below HI.o.1 h,bel_step HI.o.2 h⟩:byteK.own 5 W w.heap.size TT (.slice A3 B1.length c3) B1/\Below w.heap.size w W));have gx:=fun p:QT.Bel wr=>p.cell hcx
    have gy:=fun p:QT.Bel wr=>p.cell hcy
    clear hcells hx h4 hy hgy hj hn HI;go_upto_region 7 with fail
    refine QT.region_all (by kernel_rfl) (by kernel_rfl) ?_
    iterate 9 (go_big_quiet_step (fail))
    go_big_quiet_step (exact QT.Bel.call _ (HC.o _))
    iterate 1 (go_big_quiet_step (fail))
    refine wpQuiet_nil ?_;intro w7 hw';obtain ⟨⟨_,hb⟩,rfl⟩:=hw';have HO1:=Zz (HI2.o w7 hb).1;have HB1:=Zz (HI2.o w7 hb).2;have hcx7:=HCx.o w7 HB1.o;clear hb HC HI2 gx gy hcx hcy;obtain ⟨m,hm⟩:∃ m,m = x.length - n:=⟨_,rfl⟩;have w1:IntKind.i64.wrap ((x.length:Int) - (n:Int)) = (m:Int):=by rw [Zw];omega
    have w2:(x.length:Int) - (n:Int) = (m:Int):=by omega
    have HTwo:=Zz (fun W=>two_row W n m (by omega) (by omega));have hxe:(mkS x).extract n x.length = mkS (x.drop n):=by rw [mkS_extract];congr 1;rw [List.take_of_length_le (by rw [Zj];omega)]
    have hxe2:(mkS x).extract n (mkS x).size = mkS (x.drop n):=by rw [zx];exact hxe
    have HPc:Hid (B1 ++ [UInt8.ofNat n,UInt8.ofNat m] ++ (x.drop n) = headN l.length ++ upTo l (k + 1)):=Zz (by
     rw [HBe.o,upTo_succ,piece,HO.o,HGd.o,hm];simp)
    have HLen2:=Zz (HUp.o (k + 1) hlt);rw [<- HPc.o] at HLen2;have hl1:B1.length + 2 <= 100000:=by have:=HLen2.o;simp only [Zl,Zc,List.length_nil] at this |-;omega
    obtain ⟨B2,hB2⟩:∃ B2,B2 = B1 ++ [UInt8.ofNat n,UInt8.ofNat m]:=⟨_,rfl⟩;rw [<- hB2] at HPc HLen2;have hl2:B2.length + (x.drop n).length <= 100000:=by have:=HLen2.o;rw [Zl] at this;exact this
    have HB2e:=Zz hB2;obtain ⟨X,hX⟩:∃ X,X = (x.drop n):=⟨_,rfl⟩;rw [<- hX] at HPc hl2 hxe hxe2;have HConv:=Zz (fun W=>conv_m X (by omega) W);clear HLen2 hm hB2 hX;go_wp2_with (at_builtin;first | (refine Kd.own_app byteK w.heap.size rfl (.tmp 33) (.tmp 44) 55 5 (.int .u8 0) 1 rfl underlying55 PackW.info_u8 rfl (by decide) _ B1 [UInt8.ofNat n,UInt8.ofNat m] (some ⟨w7.heap.size,0,none⟩) 2 TT (by rfl) (by rfl) (Kd.own_alloc HO1.o _) (.inr ⟨HTwo.o _,any_u8⟩) (bel_alloc HB1.o _) (by have:=HB1.o.size;simp;omega) (by simp;omega) ?_;intro v1 w8 ho1 hb1 hg1 hv1;clear hg1 hv1;rw [<- HB2e.o] at ho1;have HO8:=Zz ho1;have HB8:=Zz hb1;clear ho1 hb1;obtain ⟨A8,c8,rfl,_,_⟩:=Kd.own_slice HO8.o;have hcx8:=HCx.o w8 HB8.o;obtain ⟨cap,o,hcv,hrow⟩:=HConv.o w8;have HRw:=Zz hrow;clear hrow) | (refine Kd.own_app byteK w.heap.size rfl (.tmp 46) (.tmp 53) 55 5 (.int .u8 0) 1 rfl underlying55 PackW.info_u8 rfl (by decide) _ B2 X (some ⟨w8.heap.size,0,none⟩) cap TT (by rfl) (by rfl) (Kd.own_alloc (Kd.own_below HO8.o (bel_drew (bR _ _))) _) (.inr ⟨HRw.o,any_u8⟩) (bel_alloc (bel_drew HB8.o) _) (by have:=HB8.o.size;simp;omega) (by omega) ?_;intro v9 w9 ho2 hb2 hg2 hv2;clear hg2 hv2;rw [HPc.o] at ho2;have HO9:=Zz ho2;have HB9:=Zz hb2;clear ho2 hb2;obtain ⟨A9,c9,rfl,_,_⟩:=Kd.own_slice HO9.o))
    go_wp2;go_roundw
    case rel=>exact ⟨k + 1,by go_num,by omega,Zz ⟨by have h:=HO9.o;rwa [Zl] at h,HB9.o⟩⟩
    case measure=>simp [intOf];omega
  ·
   have hd:decide ((k:Int) < (l.length:Int)) = false:=dF (by omega);have hd2:decide (k < l.length) = false:=dF hlt;obtain rfl:k = l.length:=by omega
   have HO1:=Zz HI.o.1;have HB1:=Zz HI.o.2;have HBf:Hid (frontB l = B1):=Zz HBe.o.symm;clear HI;go_wp2;go_ret;exact ⟨⟨_,rfl,by rw [HBf.o];exact HO1.o⟩,HB1.o⟩
end Ref6
namespace IdsAll
open Go.RowKit Go.Lib B Rd OrdG StoreW IdsCmp IdsW Clones
theorem ids_cells {w:World} {ok:Nat -> Prop} {l:List Ids} {A:Option Addr} {c:Nat} (h:idsK.sl.M w ok l [.slice A l.length c]) (hp:0 < l.length) :
  ∃ b off,A = some ⟨b,off,none⟩/\ok b/\b < w.heap.size/\∀ i (hi:i < l.length),I3 w b (off + i * 3) l[i]:=by
 obtain ⟨A',c',he,hlc,_,hA,hrow⟩:=h;obtain ⟨rfl,rfl⟩:A = A'/\c = c':=by simpa using he
 obtain ⟨b,off,hAe,hok,hb,hcells⟩:=Kd.row_addr hrow hp;refine ⟨b,off,hAe,hok,hb,fun i hi=>?_⟩;obtain ⟨cs,⟨hcs,_⟩,hcell⟩:=hcells i hi;subst hcs;exact I3.of hcell
theorem run_ne_ids (x y:Ids) (w:World):(binOp .neq 40 (.agg #[.int .i64 (x.a:Nat),.int .i64 (x.b:Nat),.int .i64 (x.c:Nat)]) (.agg #[.int .i64 (y.a:Nat),.int .i64 (y.b:Nat),.int .i64 (y.c:Nat)])).run Tryz.prog w = .ok (.bool (!decide (x = y))) w:=by
 obtain ⟨i,hi,_⟩:=info_parts info_int;have hu:Tryz.prog.underlying 40 = some (.array 3 3):=underlying40;have hc:(Tryz.prog).cellsOf 3 = 1:=by kernel_rfl
 have u3:=underlying3;have a3:=isAgg3;have z3:=sizeOf3;obtain ⟨xa,xb,xc⟩:=x;obtain ⟨ya,yb,yc⟩:=y;dsimp only;rw [run_neq_struct,show (10000:Nat) = 9998 + 1 + 1 from rfl,run_equalIn_array (w:=w) (9998 + 1) _ _ hu hi,hc,show List.range 3 = [0,1,2] from rfl];simp only [Op.eqItems];go_simp;by_cases h1:xa = ya <;> by_cases h2:xb = yb <;> by_cases h3:xc = yc <;> simp [h1,h2,h3] <;> omega
theorem same8_calls (l m:List Ids) (A B:Option Addr) (c d:Nat) (w:World) (HL:idsK.sl.M w (fun k=>k < w.heap.size) l [.slice A l.length c]) (HM:idsK.sl.M w (fun k=>k < w.heap.size) m [.slice B m.length d]) (h47:l.length <= 1000000) (h48:m.length <= 1000000) :
  Calls Tryz.prog 25 #[.slice A l.length c,.slice B m.length d] w fun e w'=>e = .returned (.bool (decide (l = m)))/\Below w.heap.size w w':=by
 have HR:=Zz (fun hp=>ids_cells HL hp);have HQ:=Zz (fun hp=>ids_cells HM hp);clear HL HM;by_cases hlen:l.length = m.length
 ·
  have hne:(l.length != m.length) = false:=by simp [hlen]
  have hne2:((l.length:Int) != (m.length:Int)) = false:=by simp [hlen]
  have HLen:=Zz hlen;clear hlen;go_enter func25,ntmps25;go_wp2;go_loopw [5] (fun vi wr=>∃ k:Nat,vi = .int .i64 k/\k <= l.length/\Hid (l.take k = m.take k/\Below w.heap.size w wr)) (fun vi _=>l.length - (intOf vi).toNat)
  case atStart=>exact ⟨0,rfl,by omega,Zz ⟨rfl,bR _ _⟩⟩
  case round =>
   obtain ⟨k,rfl,hkL,HI⟩:=hrel;by_cases hlt:k < l.length
   ·
    have hd:decide (k < l.length) = true:=dT hlt;have ik:(k:Int) < (l.length:Int):=by omega
    have hkm:k < m.length:=by rw [<- HLen.o];exact hlt
    have ikm:(k:Int) < (m.length:Int):=by omega
    obtain ⟨b,off,rfl,_,hbs,hcells⟩:=HR.o (by omega);obtain ⟨b2,off2,rfl,_,hbs2,hcells2⟩:=HQ.o (by omega);have hcx:=(hcells k hlt).below HI.o.2;have hcy:=(hcells2 k hkm).below HI.o.2;obtain ⟨x,hx⟩:∃ x,x = l[k]:=⟨_,rfl⟩;obtain ⟨y,hy⟩:∃ y,y = m[k]:=⟨_,rfl⟩;rw [<- hx] at hcx;rw [<- hy] at hcy;have HNe:=Zz (fun w=>run_ne_ids x y w);have HOk:Hid (x = y -> l.take (k + 1) = m.take (k + 1)):=Zz (fun h=>by
     rw [Zt hlt,Zt hkm,HI.o.1,<- hx,<- hy,h])
    have HNo:Hid (x ≠ y -> decide (l = m) = false):=Zz (fun h=>dF (fun h2=>h (by rw [hx,hy];subst h2;rfl)));have HB:=Zz HI.o.2;have x0:=hcx 0 (by decide);have x1:=hcx 1 (by decide);have x2:=hcx 2 (by decide);have y0:=hcy 0 (by decide);have y1:=hcy 1 (by decide);have y2:=hcy 2 (by decide);simp only [Nat.add_zero,at3] at x0 x1 x2 y0 y1 y2;clear hcells hcells2 hx hy HI hcx hcy;by_cases hxy:x = y
    ·
     rw [dT hxy] at HNe;have HN:=Zz (HOk.o hxy);clear hxy HOk HNo;obtain ⟨xa,xb,xc⟩:=x;obtain ⟨ya,yb,yc⟩:=y;have hnn:=HNe.o;dsimp only at x0 x1 x2 y0 y1 y2 hnn;go_upto_region 6 with fail
     go_quiet (fail);go_wp2;go_roundw
     case rel=>exact ⟨k + 1,by go_num,by omega,Zz ⟨HN.o,bel_drewN HB.o _⟩⟩
     case measure=>simp [intOf];omega
    ·
     rw [dF hxy] at HNe;have HN:=Zz (HNo.o hxy);clear hxy HOk HNo;obtain ⟨xa,xb,xc⟩:=x;obtain ⟨ya,yb,yc⟩:=y;have hnn:=HNe.o;dsimp only at x0 x1 x2 y0 y1 y2 hnn;go_upto_region 6 with fail
     go_quiet (fail);go_wp2;go_ret;exact ⟨by rw [HN.o];rfl,bel_drewN HB.o _⟩
   ·
    have hd:decide (k < l.length) = false:=dF hlt;have HN:Hid (decide (l = m) = true):=Zz (dT (by
     have:=HI.o.1
     rwa [List.take_of_length_le (by omega),List.take_of_length_le (by rw [<- HLen.o];omega)] at this))
    have HB:=Zz HI.o.2;clear HI;go_wp2;go_ret;exact ⟨by rw [HN.o];rfl,HB.o⟩
 ·
  have hne:(l.length != m.length) = true:=by simp [hlen]
  have hne2:((l.length:Int) != (m.length:Int)) = true:=by simp;omega
  have HN:Hid (decide (l = m) = false):=Zz (dF (fun h=>hlen (by rw [h])));clear hlen;go_enter func25,ntmps25;go_wp2;go_ret;exact ⟨by rw [HN.o];rfl,bR _ _⟩
end IdsAll
namespace BoxRef
open Go.RowKit CrcPure BoxPure B CrcWalk CrcLaws BoxWalk BoxPack
theorem may_iff (l:List Sec):May l ↔ rising 0 l = true/\l.length <= 8/\9 + 7 * l.length + total l <= 100000:=by
 unfold May;constructor
 ·
  rintro ⟨a,b,c⟩;exact ⟨b,a,c⟩
 ·
  rintro ⟨a,b,c⟩;exact ⟨b,a,c⟩
theorem lastID_at (l:List Sec) (k:Nat) (h:k < l.length) (hk:0 < k) (n:Int):lastID n (l.take k) = (l[k - 1]'(by omega)).1:=by
 obtain ⟨j,rfl⟩:∃ j,k = j + 1:=⟨k - 1,by omega⟩;exact lastID_snoc' l j (by omega) n
theorem may_calls (l:List Sec) (hS:total l + 10 * l.length <= 90000) (h6:l.length <= 600) (v:Value) (ok:Nat -> Prop) (w:World) (m:secK.sl.M w ok l [v]) :
  Calls Tryz.prog 79 #[v] w fun e w'=>e = .returned (.bool (decide (May l)))/\Below w.heap.size w w':=by
 obtain ⟨A,c,hv,h1,h2,h3,hr⟩:=m;simp at hv;subst hv;have HR:=Zz hr;clear hr;have hl5:l.length <= 600:=by omega
 go_enter func79,ntmps79;go_wp2;go_loopw [3,4] (fun vn vi wr=>∃ (k:Nat) (S:Int),k <= l.length/\vi = .int .i64 k/\vn = .int .i64 S/\Hid (S = ((9 + 7 * l.length + total (l.take k):Nat):Int))/\0 <= S/\S <= 95000/\Hid (rising 0 (l.take k) = true)/\Hid (Below w.heap.size w wr)) (fun _ vi _=>l.length - (intOf vi).toNat)
 case atStart=>exact ⟨0,9 + 7 * (l.length:Int),by omega,by simp,rfl,Zz (by simp [total]),by omega,by omega,Zz rfl,Zz (bR _ _)⟩
 case round =>
  obtain ⟨k,S,hk,rfl,rfl,HS,hS0,hS1,HRi,HB⟩:=hrel;by_cases hlt:k < l.length
  ·
   obtain ⟨b,off,A',c',rfl,hbl,hc0',hc1',hid,hbody⟩:=sec_at HR.o k hlt;have hc0:=cell_same hc0' (HB.o.block _ (cell_lt hc0'));have hc1:=cell_same hc1' (HB.o.block _ (cell_lt hc1'));have HT1:=Zz (total_snoc l k hlt);have HT3:=Zz (rising_snoc' l k hlt 0);have hb47:9 + 7 * l.length + total (l.take k) + l[k].2.length <= 95000:=by
    have e1:=total_snoc l k hlt;have e2:=total_take l (k + 1);omega
   have HPre:Hid (0 < k -> ∃ pid:Int,wr.cell? ⟨b,off + (k - 1) * 2,none⟩ = some (.int .i64 pid)/\lastID 0 (l.take k) = pid):=by
    refine Zz (fun hk0=>?_);obtain ⟨b',off',A1,c1,he,_,hp0,_,_,_⟩:=sec_at HR.o (k - 1) (by omega);cases he;exact ⟨_,cell_same hp0 (HB.o.block _ (cell_lt hp0)),lastID_at l k hlt hk0 0⟩
   have HN:Hid (rising 0 (l.take (k + 1)) = false -> decide (May l) = false):=by
    refine Zz (fun h=>dF (fun hM=>?_));rw [rising_take l (k + 1) 0 hM.2.1] at h;cases h
   have hbl1:l[k].2.length <= 95000:=by omega
   clear hc0' hc1' hbody;generalize hx:l[k] = x at *;clear hx;obtain ⟨id,body⟩:=x;dsimp only at *;have hSb:S + body.length <= 95000:=by rw [HS.o];omega
   clear hb47;have ik:(k:Int) < (l.length:Int):=by omega
   have ik0:(0:Int) <= (k:Int):=by omega
   have in0:(0:Int) <= off:=by omega
   have HG:=Zz (lastID_ge _ 0 HRi.o);by_cases c1:id < 1
   ·
    have d1:decide (id < 1) = true:=dT c1;have HFi:=Zz (HN.o (by
     rw [HT3.o];have:=HG.o;by_cases g:lastID 0 (l.take k) < id
     ·
      omega
     ·
      simp [g]))
    go_wp2_with fail;go_quiet (fail);go_wp2;go_ret;exact ⟨ret_bool HFi.o.symm,bel_drewN HB.o _⟩
   ·
    have d1:decide (id < 1) = false:=dF c1;by_cases c2:255 < id
    ·
     have d2:decide (255 < id) = true:=dT c2;have HFi:=Zz (HN.o (by rw [HT3.o];simp;omega));go_wp2_with fail;go_quiet (fail);go_wp2;go_ret;exact ⟨ret_bool HFi.o.symm,bel_drewN HB.o _⟩
    ·
     have d2:decide (255 < id) = false:=dF c2;have d5:decide (100000 < (body.length:Int)) = false:=dF (by omega);by_cases hk0:0 < k
     ·
      obtain ⟨pid,hp,hpid⟩:=HPre.o hk0;have HP:=Zz hpid;clear hpid;have d3:decide (0 < k) = true:=dT hk0;have e0:IntKind.i64.wrap ((k:Int) - 1) = (k:Int) - 1:=by rw [Zw];omega
      have e1:((k:Int) - 1).toNat = k - 1:=by omega
      have e2:(0:Int) <= (k:Int) - 1:=by omega
      have e3:(1:Int) <= (k:Int):=by omega
      have e4:(k:Int) - 1 < (l.length:Int):=by omega
      by_cases c4:id <= pid
      ·
       have d4:decide (id <= pid) = true:=dT c4;have HFi:=Zz (HN.o (by rw [HT3.o,HP.o];simp;omega));go_wp2_with fail;go_quiet (fail);go_wp2;go_ret;exact ⟨ret_bool HFi.o.symm,bel_drewN HB.o _⟩
      ·
       have d4:decide (id <= pid) = false:=dF c4;have HR':Hid (rising 0 (l.take (k + 1)) = true):=Zz (by rw [HT3.o,HRi.o,HP.o];simp;omega);go_wp2_with fail;go_quiet (fail);clear e0 e1 e2 e3 e4;go_wp2;go_roundw
       case rel=>exact ⟨k + 1,S + body.length,by omega,by go_num,rfl,Zz (by rw [HT1.o,HS.o];omega),by omega,by omega,HR',Zz (bel_drewN HB.o _)⟩
       case measure=>simp [intOf];omega
     ·
      obtain rfl:k = 0:=by omega
      have d3:decide (0 < 0) = false:=by simp
      have HR':Hid (rising 0 (l.take (0 + 1)) = true):=Zz (by rw [HT3.o];simp [rising,lastID];omega);have hl0:0 < l.length:=hlt;rw [Nat.zero_mul,Nat.add_zero] at hc0 hc1;clear HPre;go_wp2_with fail;go_quiet (fail);go_wp2;go_roundw
      case rel=>exact ⟨0 + 1,S + body.length,by omega,by go_num,rfl,Zz (by rw [HT1.o,HS.o];omega),by omega,by omega,HR',Zz (bel_drewN HB.o _)⟩
      case measure=>simp [intOf];omega
  ·
   obtain rfl:k = l.length:=by omega
   rw [List.take_of_length_le (lR _)] at *;by_cases c8:l.length <= 8
   ·
    have d8:decide ((l.length:Int) <= 8) = true:=dT (by omega);by_cases c9:S <= 100000
    ·
     have d9:decide (S <= 100000) = true:=dT c9;have HFi:Hid (decide (May l) = true):=Zz (dT ((may_iff l).2 ⟨HRi.o,c8,by have:=HS.o;omega⟩));go_wp2;go_ret;exact ⟨ret_bool HFi.o.symm,HB.o⟩
    ·
     omega
   ·
    have d8:decide ((l.length:Int) <= 8) = false:=dF (by omega);have HFi:Hid (decide (May l) = false):=Zz (dF (fun hM=>c8 hM.1));go_wp2;go_ret;exact ⟨ret_bool HFi.o.symm,HB.o⟩
theorem refpack_calls (l:List Sec) (hS:total l + 10 * l.length <= 90000) (h6:l.length <= 600) (v:Value) (w:World) (m:secK.sl.M w T l [v]) :
  Calls Tryz.prog 40 #[v] w (PackPost l w):=by
 have HM0:=Zz m;obtain ⟨A,c,hv,h1,h2,h3,hr0⟩:=m;simp at hv;subst hv;have HR:=Zz (Kd.row_mono (ok':=fun k=>k < w.heap.size) (fun k _ hk=>hk) hr0);clear hr0;by_cases hM:May l
 ·
  have hlen:l.length <= 8:=hM.1;have HM:=Zz hM;have hd:decide (May l) = true:=dT hM;clear hM;have kc:=fun (w:World) (C:Array Value) (n c:Nat)=>Lib.run_convert_bytes_const (P:=Tryz.prog) w 55 5 C n c underlying55 underlying5
  have HL:Hid ((#[.int .u8 1,.int .u8 (l.length:Int)]:Array Value).toList = [1,UInt8.ofNat l.length].map fun c=>Value.int .u8 (c.toNat:Int)):=by
   have:(#[.int .u8 1,.int .u8 (l.length:Int)]:Array Value).toList = [1,UInt8.ofNat l.length].map fun c=>Value.int .u8 (c.toNat:Int):=by
    simp only [List.map_cons,List.map_nil,UInt8.toNat_ofNat'];rw [show (((l.length % 2 ^ 8:Nat)):Int) = (l.length:Int) by omega]
    try rfl
   exact Zz this
  go_enter func40,ntmps40;go_wp2_with fail;refine (may_calls l hS h6 _ T _ HM0.o).mono ?_;rintro e w0 ⟨rfl,hb0⟩;rw [hd];have HB0:=Zz hb0;clear hb0 hd HM0;go_wp2_with (at_builtin;go_loud (refine Kd.own_grow byteK rfl (.tmp 11) (.tmp 15) 55 5 (.int .u8 0) 1 rfl underlying55 info_u8 rfl (by decide) [84,82,73,86] [1,UInt8.ofNat l.length] (some ⟨w0.heap.size,0,none⟩) (some ⟨w0.heap.size + 1,0,none⟩) 4 2 T rfl rfl ?hx ?hy (by simp) (by simp) (by simp) ?_);(case hx=>exact Kd.u8_sl (l:=[84,82,73,86]) (by simp) (by simp [maxLen]) (fun h=>by cases h) (Kd.row_u8 (by repeat (first | exact Kd.bi_new (by simp) | refine Kd.bi_old ?_)) trivial rfl));(case hy=>exact Kd.u8_sl (l:=[1,UInt8.ofNat l.length]) (by simp) (by simp [maxLen]) (fun h=>by cases h) (Kd.row_u8 (by repeat (first | exact Kd.bi_new (by simp) | refine Kd.bi_old ?_)) trivial HL.o));intro v1 w1 ho1 hb1;have HO1:=Zz ho1;have HB1:=Zz hb1;clear ho1 hb1)
  have hb1:Below w.heap.size w w1:=bel_step (bel_alloc (bel_alloc HB0.o _) _) HB1.o;have HO2:Hid (byteK.own 5 w1 w.heap.size T v1 (title ++ [UInt8.ofNat l.length] ++ heads (l.take 0))):=by
   have:=Kd.own_lower (base':=w.heap.size) (by have:=HB0.o.size;simp;omega) HO1.o;exact Zz (by simpa [heads,title] using this)
  have HB2:=Zz hb1;clear HO1 HB1 hb1 kc HB0 HL;go_loopw [4,5] (fun vb vi wr=>∃ k:Nat,k <= l.length/\vi = .int .i64 k/\Hid (byteK.own 5 wr w.heap.size T vb (title ++ [UInt8.ofNat l.length] ++ heads (l.take k)))/\Hid (Below w.heap.size w wr)) (fun _ vi _=>l.length - (intOf vi).toNat)
  case atStart=>exact ⟨0,by omega,rfl,HO2,HB2⟩
  case round =>
   clear HO2 HB2;obtain ⟨k,hk,rfl,HO,HB⟩:=hrel;by_cases hlt:k < l.length
   ·
    obtain ⟨b,off,A',c',rfl,hbl0,hc0',hc1',hid0,hbody'⟩:=sec_at HR.o k hlt;have hid:=id_range l 0 HM.o.2.1 l[k] (Zm hlt);have HT2:=Zz (heads_snoc l k hlt);have hbl1:l[k].2.length <= 100000:=by
     have e1:=total_snoc l k hlt;have e2:=total_take l (k + 1);have e3:=HM.o.2.2;omega
    have HBY:=Zz hbody';have hlen0:(title ++ [UInt8.ofNat l.length] ++ heads (l.take k)).length <= 62:=by
     rw [Zl,heads_length];simp [title];omega
    have HT2':Hid (title ++ [UInt8.ofNat l.length] ++ heads (l.take (k + 1)) = ((title ++ [UInt8.ofNat l.length] ++ heads (l.take k)) ++ [idB l[k].1]) ++ three l[k].2.length ++ three (crc l[k].2)):=
     Zz (by rw [HT2.o];simp [head1])
    clear HT2 hbody';generalize title ++ [UInt8.ofNat l.length] ++ heads (l.take k) = pre at *;generalize hx:l[k] = x at *;clear hx;obtain ⟨id,body⟩:=x;dsimp only at *;have HID:Hid (id = ((idB id).toNat:Int)):=Zz (idB_val (by omega) hid.2).symm;have hid1:0 <= id:=by omega
    have hid2:id <= 255:=hid.2;have hwr:IntKind.u8.wrap id = id:=by rw [IntKind.wrap_u8];omega
    have HK:Hid (∀ w',Below w.heap.size w w' -> w'.cell? ⟨b,off + k * 2,none⟩ = some (.int .i64 id)/\w'.cell? ⟨b,off + k * 2 + 1,none⟩ = some (.slice A' body.length c')):=
     Zz (fun w' h=>⟨cell_same hc0' (h.block _ (cell_lt hc0')),cell_same hc1' (h.block _ (cell_lt hc1'))⟩)
    clear hc0' hc1';obtain ⟨hc0,hc1⟩:=HK.o _ HB.o;have ik:(k:Int) < (l.length:Int):=by omega
    have ik0:(0:Int) <= (k:Int):=by omega
    obtain ⟨Ab,cb,rfl,_,_⟩:=Kd.own_slice HO.o;go_upto_region 7 with fail
    go_cut [4] (fun vb wx=>Hid (byteK.own 5 wx w.heap.size T vb ((pre ++ [idB id]) ++ three body.length))/\Hid (Below w.heap.size w wx))
    case first =>
     have hB:=HB.o;go_region_held3 (fun w'=>w'.cell? ⟨b,off + k * 2,none⟩ = some (.int .i64 id)/\w'.cell? ⟨b,off + k * 2 + 1,none⟩ = some (.slice A' body.length c'))
      (exact HK.o _ (by repeat (first | assumption | refine bel_alloc ?_ _ | refine bel_drew ?_)))
      (first
       | (refine Kd.own_app_step byteK (w0:=w) w.heap.size (by rfl) (.tmp 23) (.tmp 30) 55 5 (.int .u8 0) 1 (by rfl) underlying55 info_u8 rfl (by decide) (.slice Ab pre.length cb) pre [idB id] (some ⟨wr.heap.size,0,none⟩) 1 T (by rfl) (by rfl) ?ho (.inr ⟨?hr,any_u8⟩) ?hb ?hs ?hl ?_;go_loud (case hl=>simp;omega);go_loud (case ho=>repeat (first | exact HO.o | refine Kd.own_alloc ?_ _ | refine Kd.own_drew ?_));go_loud (case hr=>exact Kd.u8_sl (l:=[idB id]) (by simp) (by simp [maxLen]) (fun h=>by cases h) (Kd.row_u8 (by repeat (first | exact Kd.bi_new (by simp) | refine Kd.bi_old ?_ | refine Kd.bi_drew ?_)) trivial (by exact congrArg (fun z:Int=>[Value.int .u8 z]) HID.o)));go_loud (case hb=>repeat (first | assumption | refine bel_alloc ?_ _ | refine bel_drew ?_));go_loud (case hs=>have:=hB.size;simp;omega);intro v1 w1 ho1 hb1 hg1 hv1;have HO1:=Zz ho1;clear ho1 hg1 hv1)
       | (go_at_call 80;go_loud (refine (refthree_calls body.length (by omega) _).mono ?_);rintro e w2 ⟨v2,rfl,ho2,hb2⟩;have HT:=Zz ho2;have HO2:=Zz (Kd.own_below HO1.o hb2);have hb3:=bel_step hb1 hb2;clear ho2 hb2 HO1)
       | (obtain ⟨A2,c2,rfl,_,_⟩:=Kd.own_slice HT.o;go_loud (refine Kd.own_app_step byteK w.heap.size rfl (.tmp 31) (.tmp 38) 55 5 (.int .u8 0) 1 rfl underlying55 info_u8 rfl (by decide) _ (pre ++ [idB id]) (three body.length) A2 c2 T rfl (by simp [Act.eval,Act.put]) HO2.o (.inr ⟨Kd.own_sl (ok':=T) HT.o (fun _ _=>trivial) (fun _ _=>trivial),any_u8⟩) hb3 hb3.size (by simp [three];omega) ?_);intro v4 w4 ho4 hb4 hg4 hv4;have HO4:=Zz ho4;clear ho4 hg4 hv4))
     go_wp2_with fail;go_meet;exact ⟨HO4,Zz hb4⟩
    case rest =>
     obtain ⟨HO7,HB7⟩:=hcut;clear hc0 hc1 hwr ik ik0;have hp1:((pre ++ [idB id]) ++ three body.length).length <= 66:=by simp [three];omega
     generalize (pre ++ [idB id]) ++ three body.length = p1 at *;obtain ⟨hc0,hc1⟩:=HK.o _ HB7.o;have ik:(k:Int) < (l.length:Int):=by omega
     obtain ⟨Ay,cy,rfl,_,_⟩:=Kd.own_slice HO7.o;obtain ⟨A3,c3,he3,_,hq3,_,hr3⟩:=HBY.o;obtain ⟨rfl,rfl⟩:A' = A3/\c' = c3:=by simp at he3;exact he3
     have HR3:=Zz (Kd.row_below (Kd.row_mono (ok':=T) (fun _ _ _=>trivial) hr3) HB7.o);clear hr3 he3;go_wp2_with fail;refine (ref_calls body A' c' T _ (by unfold maxLen;omega) HR3.o).mono ?_;rintro e w4 ⟨rfl,rfl⟩;have hcr:=crc_lt body;generalize crc body = cr at *;go_wp2_with fail;refine (refthree_calls cr hcr _).mono ?_;rintro e w5 ⟨v5,rfl,ho5,hb5⟩;have HO5:=Zz ho5;have HP5:=Zz (Kd.own_below HO7.o hb5);have HB5:=Zz (bel_step HB7.o hb5);have ht5:(three cr).length <= 3:=lR _;generalize three cr = t5 at *;obtain ⟨A5,c5,rfl,_,_⟩:=Kd.own_slice ho5;have HM5:=Zz (Kd.own_sl (ok':=T) HO5.o (fun _ _=>trivial) (fun _ _=>trivial));clear ho5 hb5 hc0 hc1;go_wp2_with (at_builtin;go_loud (refine Kd.own_app byteK w.heap.size rfl (.tmp 40) (.tmp 47) 55 5 (.int .u8 0) 1 rfl underlying55 info_u8 rfl (by decide) (.slice Ay p1.length cy) p1 t5 A5 c5 T (by simp [Act.eval,Act.put]) (by simp [Act.eval,Act.put]) HP5.o (.inr ⟨HM5.o,any_u8⟩) HB5.o HB5.o.size (by omega) ?_);intro v6 w6 ho6 hb6 hg6 hv6;have HO6:=Zz ho6;have HB6:=Zz hb6;clear ho6 hb6 hg6 hv6)
     go_roundw
     case rel=>exact ⟨k + 1,by omega,by go_num,Zz (by rw [HT2'.o];exact HO6.o),HB6⟩
     case measure=>simp [intOf];omega
   ·
    obtain rfl:k = l.length:=by omega
    rw [List.take_of_length_le (lR _)] at HO;have HH:Hid (title ++ [UInt8.ofNat l.length] ++ heads l = header l):=Zz (by simp [header]);rw [HH.o] at HO;have hhl:(header l).length <= 62:=by rw [header_length];omega
    have HF:Hid (header l ++ three (crc (header l)) ++ bodies l = file l):=Zz rfl;generalize header l = hd at *;clear HH;obtain ⟨Ab,cb,rfl,_,_⟩:=Kd.own_slice HO.o;have HS0:=Kd.own_sl (ok':=T) HO.o (fun _ _=>trivial) (fun _ _=>trivial);obtain ⟨A3,c3,he3,_,hq3,_,hr3⟩:=HS0;obtain ⟨rfl,rfl⟩:Ab = A3/\cb = c3:=by simp at he3;exact he3
    have HR3:=Zz hr3;clear he3 hr3;go_wp2_with fail;refine (ref_calls hd Ab cb T _ (by unfold maxLen;omega) HR3.o).mono ?_;rintro e w4 ⟨rfl,rfl⟩;have hcr:=crc_lt hd;generalize crc hd = cr at *;go_wp2_with fail;refine (refthree_calls cr hcr _).mono ?_;rintro e w5 ⟨v5,rfl,ho5,hb5⟩;have HO5:=Zz ho5;have HP5:=Zz (Kd.own_below HO.o hb5);have HB5:=Zz (bel_step HB.o hb5);have ht5:(three cr).length <= 3:=lR _;generalize three cr = t5 at *;obtain ⟨A5,c5,rfl,_,_⟩:=Kd.own_slice ho5;have HM5:=Zz (Kd.own_sl (ok':=T) HO5.o (fun _ _=>trivial) (fun _ _=>trivial));clear ho5 hb5;go_wp2_with (at_builtin;go_loud (refine Kd.own_app byteK w.heap.size rfl (.tmp 49) (.tmp 52) 55 5 (.int .u8 0) 1 rfl underlying55 info_u8 rfl (by decide) (.slice Ab hd.length cb) hd t5 A5 c5 T (by simp [Act.eval,Act.put]) (by simp [Act.eval,Act.put]) HP5.o (.inr ⟨HM5.o,any_u8⟩) HB5.o HB5.o.size (by omega) ?_);intro v6 w6 ho6 hb6 hg6 hv6;have HO6:=Zz ho6;have HB6:=Zz hb6;clear ho6 hb6 hg6 hv6)
    have hp6:(hd ++ t5).length <= 65:=by simp;omega
    generalize hd ++ t5 = p6 at *;have ht:=HM.o.2.2;go_loopw [4,6] (fun vb vi wq=>∃ k:Nat,k <= l.length/\vi = .int .i64 k/\Hid (byteK.own 5 wq w.heap.size T vb (p6 ++ bodies (l.take k)))/\Hid (Below w.heap.size w wq)) (fun _ vi _=>l.length - (intOf vi).toNat)
    case atStart=>exact ⟨0,by omega,rfl,Zz (by simpa [bodies] using HO6.o),HB6⟩
    case round =>
     obtain ⟨k,hk',rfl,HOq,HBq⟩:=hrel;by_cases hlt':k < l.length
     ·
      obtain ⟨b,off,A',c',rfl,hbl,hc0,hc1,hid,hbody⟩:=sec_at (Kd.row_old HR.o HBq.o) k hlt';have HT2:=Zz (bodies_snoc l k hlt');have hT3:(bodies (l.take k)).length + l[k].2.length <= 100000:=by
       have e1:=total_snoc l k hlt';have e2:=total_take l (k + 1);rw [bodies_length];omega
      have HBY:=Zz hbody;clear hbody;have hpq:(p6 ++ bodies (l.take k)).length = p6.length + (bodies (l.take k)).length:=by simp
      have hpq':(p6 ++ bodies (l.take k)).length + l[k].2.length <= 100065:=by omega
      clear hpq hT3;generalize hx:l[k] = x at *;clear hx;obtain ⟨id,body⟩:=x;dsimp only at *;have HT3:Hid (p6 ++ bodies (l.take (k + 1)) = (p6 ++ bodies (l.take k)) ++ body):=Zz (by rw [HT2.o,Za]);generalize p6 ++ bodies (l.take k) = pq at *;obtain ⟨Aq,cq,rfl,_,_⟩:=Kd.own_slice HOq.o;go_wp2_with (at_builtin;go_loud (refine Kd.own_app byteK w.heap.size rfl (.tmp 60) (.tmp 65) 55 5 (.int .u8 0) 1 rfl underlying55 info_u8 rfl (by decide) (.slice Aq pq.length cq) pq body A' c' T (by simp [Act.eval,Act.put]) (by simp [Act.eval,Act.put]) HOq.o (.inr ⟨byteK.sl.mono (fun _ _ _=>trivial) HBY.o,any_u8⟩) HBq.o HBq.o.size (by omega) ?_);intro v7 w7 ho7 hb7 hg7 hv7;have HO7:=Zz ho7;have HB7:=Zz hb7;clear ho7 hb7 hg7 hv7)
      go_roundw
      case rel=>exact ⟨k + 1,by omega,by go_num,Zz (by rw [HT3.o];exact HO7.o),HB7⟩
      case measure=>simp [intOf];omega
     ·
      obtain rfl:k = l.length:=by omega
      rw [List.take_of_length_le (lR _)] at HOq;go_wp2_with fail;go_ret2;exact ⟨HBq.o,.inl ⟨HM.o,_,rfl,by rw [<- HF.o];exact HOq.o⟩⟩
 ·
  have hd:decide (May l) = false:=dF hM;have HM:=Zz hM;clear hM;go_enter func40,ntmps40;go_wp2_with fail;refine (may_calls l hS h6 _ T _ HM0.o).mono ?_;rintro e w0 ⟨rfl,hb0⟩;rw [hd];go_wp2;go_ret2;exact ⟨hb0,.inr ⟨HM.o,rfl⟩⟩
end BoxRef
namespace RefEnc
open Go.RowKit Go.Lib B Rd TermPure LinesPure Tri SortP OrdG TermW Cmp StoreW FrontP FrontW PackW StoreP IdsW RefOf Encode
theorem three_any (W:World) (t:TypeId) (a b c:Nat) (ha:a <= 1000000) (hb:b <= 1000000) (hc:c <= 1000000):intK.sl.M (W.alloc (.cells #[.int .i64 (a:Int),.int .i64 (b:Int),.int .i64 (c:Int)] t)) (fun _=>True) [(a:Int),(b:Int),(c:Int)] [.slice (some ⟨W.heap.size,0,none⟩) 3 3]:=by
 refine ⟨some ⟨W.heap.size,0,none⟩,3,rfl,lR _,⟨by simp,by unfold maxLen;omega⟩,fun h=>(by cases h),fun i x hx=>?_⟩
 match i with
 | 0 =>
  simp at hx;subst hx;refine ⟨_,[.int .i64 (a:Int)],rfl,trivial,⟨rfl,by omega⟩,fun j u hu=>?_⟩;rw [add_plain,World.cell?,Kd.heap_new]
  match j with
  | 0=>simp at hu;subst hu;rfl
  | j + 1=>simp at hu
 | 1 =>
  simp at hx;subst hx;refine ⟨_,[.int .i64 (b:Int)],rfl,trivial,⟨rfl,by omega⟩,fun j u hu=>?_⟩;rw [add_plain,World.cell?,Kd.heap_new]
  match j with
  | 0=>simp at hu;subst hu;rfl
  | j + 1=>simp at hu
 | 2 =>
  simp at hx;subst hx;refine ⟨_,[.int .i64 (c:Int)],rfl,trivial,⟨rfl,by omega⟩,fun j u hu=>?_⟩;rw [add_plain,World.cell?,Kd.heap_new]
  match j with
  | 0=>simp at hu;subst hu;rfl
  | j + 1=>simp at hu
 | i + 3=>simp at hx
theorem refpack_enc {T:List Triple} (h:Valid T) (hl:T.length <= 100) (v:Value) (w:World) (m:BoxPack.secK.sl.M w (fun _=>True) (secs2 T) [v]) :
  Calls Tryz.prog 40 #[v] w fun e w'=>(∃ u,e = .returned (.tuple #[u,.int .i64 0])/\byteK.own 5 w' w.heap.size (fun _=>True) u (encT T))/\Below w.heap.size w w':=by
 have h1:=front_len h hl;have h2:=body_len h hl;refine (BoxRef.refpack_calls (secs2 T) (by unfold secs2;simp only [BoxPure.total,Zc,List.length_nil];omega) (by unfold secs2;simp) v w m).mono ?_;rintro e w' ⟨hb,⟨_,u,he,ho⟩ | ⟨hn,_⟩⟩
 ·
  exact ⟨⟨u,he,ho⟩,hb⟩
 ·
  exact absurd (enc_may h hl) hn
theorem refenc_calls (T:List Triple) (hv:Valid T) (hl:T.length <= 100) (g:Nat) (w:World) (ok:Nat -> Prop) (h:RefAt w ok g T) :
  Calls Tryz.prog 64 #[.pointer (some ⟨g,0,none⟩)] w fun e w'=>(∃ v,e = .returned v/\byteK.own 5 w' w.heap.size (fun _=>True) v (encT T))/\Below w.heap.size w w':=by
 obtain ⟨A1,c1,hg1,_⟩:=h.terms;obtain ⟨A2,c2,hg2,hM2⟩:=h.shows;obtain ⟨A3,c3,hg3,hM3⟩:=h.ids;have hE:=E_len hv hl;have HPk:=Zz (refpack_enc hv hl);have HBits:=Zz (nums_bits hv hl);have HWide:Hid (wide T = Lib.bitLen (termsT T).length/\wide T <= 9):=Zz ⟨rfl,wide_le hv hl⟩;have HShort:=Zz (texts_short hv);have HTl:Hid ((texts T).length = (termsT T).length):=Zz (by unfold texts;simp);have HIb:Hid (∀ x ∈ idsT T,x.a <= 1000/\x.b <= 1000/\x.c <= 1000):=Zz (fun x hx=>by
  obtain ⟨q1,q2,q3⟩:=Made.good_ids hv hl x hx;omega)
 have HBl:=Zz (body_len hv hl);have hIl:=ids_len T;have HSecs:Hid (secs2 T = [(1,frontB (texts T)),(2,headN (idsT T).length ++ packB (nums (idsT T)) (wide T))]):=Zz (by rw [hIl];rfl);rw [<- hIl] at hg3 hM3 hl HBl;clear hIl;obtain ⟨I,hI⟩:∃ I,I = idsT T:=⟨_,rfl⟩;obtain ⟨E,hEe⟩:∃ E,E = termsT T:=⟨_,rfl⟩;obtain ⟨L,hL⟩:∃ L,L = texts T:=⟨_,rfl⟩;rw [<- hI] at HBits HIb HBl HSecs hg3 hM3 hl;rw [<- hEe] at hE HWide HTl hg1 hg2 hM2;rw [<- hL] at HShort HTl HSecs hM2;have HRow:=Zz (fun hp=>ids_row hM3 hp);rw [<- HTl.o] at hM2;have HG1:=Zz (fun W (hb:Below w.heap.size w W)=>(hb.cell (p:=⟨g,1,none⟩) (cell_lt hg1)).trans hg1);have HG2:=Zz (fun W (hb:Below w.heap.size w W)=>(hb.cell (p:=⟨g,2,none⟩) (cell_lt hg2)).trans hg2);have HG3:=Zz (fun W (hb:Below w.heap.size w W)=>(hb.cell (p:=⟨g,3,none⟩) (cell_lt hg3)).trans hg3);have HMS:=Zz (fun W (hb:Below w.heap.size w W)=>Kd.M_bound (Kd.M_below (Kd.M_bound hM2) hb));have HO0:Hid (intK.own 3 w w.heap.size Clones.TT (.slice none 0 0) (natZ (nums (I.take 0)))):=Zz (Kd.own_nil _ _ _ _ _);clear hg1 hg2 hg3 hM2 hM3 hI hEe hL h hv;have hl100:I.length <= 100:=hl;have k3:=HG3.o w (bR _ _);go_enter func64,ntmps64;go_wp2;go_loopw [3,4] (fun v3 vk wr=>∃ k:Nat,vk = .int .i64 k/\k <= I.length/\Hid (intK.own 3 wr w.heap.size Clones.TT v3 (natZ (nums (I.take k)))/\Below w.heap.size w wr)) (fun _ vk _=>I.length - (intOf vk).toNat)
 case atStart=>exact ⟨0,rfl,by omega,Zz ⟨HO0.o,bR _ _⟩⟩
 case round =>
  obtain ⟨k,rfl,hk,HJ⟩:=hrel;clear HO0 k3;obtain ⟨Y,hY⟩:∃ Y,Y = natZ (nums (I.take k)):=⟨_,rfl⟩;rw [<- hY] at HJ;have HYe:=Zz hY;clear hY;obtain ⟨A6,c6,rfl,_,_⟩:=Kd.own_slice HJ.o.1;have k3:=HG3.o wr HJ.o.2;by_cases hlt2:k < I.length
  ·
   have hd2:decide (k < I.length) = true:=dT hlt2;have ik2:(k:Int) < (I.length:Int):=by omega
   obtain ⟨b,off,rfl,hbs,hcells⟩:=HRow.o (by omega);have hcx:=hcells k hlt2;have hsn:=nums_snoc I k hlt2;obtain ⟨x,hx⟩:∃ x,x = I[k]:=⟨_,rfl⟩;rw [<- hx] at hcx hsn;rw [<- HYe.o] at hsn;have hxb:=HIb.o x (by rw [hx];exact Zm hlt2);have HSn:=Zz hsn;have hylen:Y.length <= 300:=by rw [HYe.o,natZ_len,nums_len,Zi];omega
   have HK:Hid (∀ w',Below w.heap.size w w' -> w'.cell? ⟨g,3,none⟩ = some (Value.slice (some ⟨b,off,none⟩) I.length c3)/\w'.cell? ⟨b,off + k * 3,none⟩ = some (Value.int .i64 (x.a:Nat))/\w'.cell? ⟨b,off + k * 3 + 1,none⟩ = some (Value.int .i64 (x.b:Nat))/\w'.cell? ⟨b,off + k * 3 + 2,none⟩ = some (Value.int .i64 (x.c:Nat))):=Zz (fun w' hbb=>by
    have hc:=hcx.below hbb;have x0:=hc 0 (by decide);have x1:=hc 1 (by decide);have x2:=hc 2 (by decide);simp only [Nat.add_zero,at3] at x0 x1 x2;exact ⟨HG3.o w' hbb,x0,x1,x2⟩)
   clear hcells hcx hsn hx;obtain ⟨xa,xb,xc⟩:=x;dsimp only at HSn hxb HK;have HThree:=Zz (fun W t=>three_any W t xa xb xc (by omega) (by omega) (by omega));have HOw:=Zz HJ.o.1;have HBw:=Zz HJ.o.2;have hzw:w.heap.size <= wr.heap.size:=HJ.o.2.size;clear HJ;go_upto_region 5 with fail
   clear k3;refine HeldZ.region (fun w'=>w'.cell? ⟨g,3,none⟩ = some (Value.slice (some ⟨b,off,none⟩) I.length c3)/\w'.cell? ⟨b,off + k * 3,none⟩ = some (Value.int .i64 (xa:Nat))/\w'.cell? ⟨b,off + k * 3 + 1,none⟩ = some (Value.int .i64 (xb:Nat))/\w'.cell? ⟨b,off + k * 3 + 2,none⟩ = some (Value.int .i64 (xc:Nat))) 27 28 #[false,false,false,false,false,false,false,false,false,false,false,false,false,false,false,false,false,false,false,false,false,false,false,false,false,false,false,false] (by kernel_rfl) rfl rfl ?_;intro hinv;have hS:=HK.o wr.drew (bel_drew HBw.o);refine HeldZ.tk 0 hinv hS ?_;clear hinv;intro hinv
   try simp only [Act.put,HeldZ.sm] at hinv |-
   refine HeldZ.tk 1 hinv hS ?_;clear hinv;intro hinv
   try simp only [Act.put,HeldZ.sm] at hinv |-
   refine HeldZ.tk 2 hinv hS ?_;clear hinv;intro hinv
   try simp only [Act.put,HeldZ.sm] at hinv |-
   refine HeldZ.tk 3 hinv hS ?_;clear hinv;intro hinv
   try simp only [Act.put,HeldZ.sm] at hinv |-
   refine HeldZ.tk 4 hinv hS ?_;clear hinv;intro hinv
   try simp only [Act.put,HeldZ.sm] at hinv |-
   refine HeldZ.tk 5 hinv hS ?_;clear hinv;intro hinv
   try simp only [Act.put,HeldZ.sm] at hinv |-
   refine HeldZ.tk 6 hinv hS ?_;clear hinv;intro hinv
   try simp only [Act.put,HeldZ.sm] at hinv |-
   refine HeldZ.tk 7 hinv hS ?_;clear hinv;intro hinv
   try simp only [Act.put,HeldZ.sm] at hinv |-
   refine HeldZ.tk 8 hinv hS ?_;clear hinv;intro hinv
   try simp only [Act.put,HeldZ.sm] at hinv |-
   refine HeldZ.tk 9 hinv hS ?_;clear hinv;intro hinv
   try simp only [Act.put,HeldZ.sm] at hinv |-
   refine HeldZ.tk 10 hinv hS ?_;clear hinv;intro hinv
   try simp only [Act.put,HeldZ.sm] at hinv |-
   refine HeldZ.tk 11 hinv hS ?_;clear hinv;intro hinv
   try simp only [Act.put,HeldZ.sm] at hinv |-
   refine HeldZ.tk 12 hinv hS ?_;clear hinv;intro hinv
   try simp only [Act.put,HeldZ.sm] at hinv |-
   refine HeldZ.tk 13 hinv hS ?_;clear hinv;intro hinv
   try simp only [Act.put,HeldZ.sm] at hinv |-
   refine HeldZ.tk 14 hinv hS ?_;clear hinv;intro hinv
   try simp only [Act.put,HeldZ.sm] at hinv |-
   refine HeldZ.tk 15 hinv hS ?_;clear hinv;intro hinv
   try simp only [Act.put,HeldZ.sm] at hinv |-
   refine HeldZ.tk 16 hinv hS ?_;clear hinv;intro hinv
   try simp only [Act.put,HeldZ.sm] at hinv |-
   refine HeldZ.tk 17 hinv hS ?_;clear hinv;intro hinv
   try simp only [Act.put,HeldZ.sm] at hinv |-
   refine HeldZ.tk 18 hinv hS ?_;clear hinv;intro hinv
   try simp only [Act.put,HeldZ.sm] at hinv |-
   refine HeldZ.tk 19 hinv hS ?_;clear hinv;intro hinv
   try simp only [Act.put,HeldZ.sm] at hinv |-
   refine HeldZ.tk 20 hinv hS ?_;clear hinv;intro hinv
   try simp only [Act.put,HeldZ.sm] at hinv |-
   refine HeldZ.tk 21 hinv hS ?_;clear hinv;intro hinv
   try simp only [Act.put,HeldZ.sm] at hinv |-
   refine HeldZ.tk 22 hinv hS ?_;clear hinv;intro hinv
   try simp only [Act.put,HeldZ.sm] at hinv |-
   refine HeldZ.tk 23 hinv hS ?_;clear hinv;intro hinv
   try simp only [Act.put,HeldZ.sm] at hinv |-
   refine HeldZ.tk 24 hinv hS ?_;clear hinv;intro hinv
   try simp only [Act.put,HeldZ.sm] at hinv |-
   refine HeldZ.ow 25 hinv ?_;clear hinv;intro hinv K hK;go_simp;have hB2:Below w.heap.size w (wr.alloc (.cells #[.int .i64 (xa:Nat),.int .i64 (xb:Nat),.int .i64 (xc:Nat)] 3)).drew:=bel_drew (bel_alloc HBw.o _);refine hK _ _ (fun _=>HK.o _ hB2) ?_;clear hK K
   try simp only [Act.put,HeldZ.sm] at hinv |-
   refine HeldZ.oneL 26 hinv (by kernel_rfl) rfl rfl ?_;clear hinv;intro hinv K hK;have hinv:=hinv (by decide);refine Kd.own_app_step intK (w0:=w) w.heap.size (by rfl) (.tmp 18) (.tmp 43) 74 3 Clones.zero_int 8 (by rfl) underlying74 Clones.info_int rfl (by decide) (.slice A6 Y.length c6) Y [(xa:Int),(xb:Int),(xc:Int)] (some ⟨wr.drew.heap.size,0,none⟩) 3 Clones.TT (by rfl) (by rfl) ?ho (.inr ⟨?hr,Clones.any_int⟩) ?hbb ?hs ?hl ?_
   case ho=>exact Kd.own_drew (Kd.own_alloc HOw.o _)
   case hr=>exact intK.sl.mono (fun _ _ _=>trivial) (Kd.M_below (Kd.M_bound (HThree.o wr 3)) (bel_drew (bR _ _)))
   case hbb=>exact hB2
   case hs=>simp;omega
   case hl=>simp;omega
   intro v1 w3 ho3 hb3 hg3 hv3;rw [HSn.o] at ho3;obtain ⟨Y3,hY3⟩:∃ Y3,Y3 = natZ (nums (I.take (k + 1))):=⟨_,rfl⟩;rw [<- hY3] at ho3;have HY3:=Zz hY3;have HO3:=Zz ho3;obtain ⟨A7,c7,rfl,_,_⟩:=Kd.own_slice ho3;have HB3:=Zz hb3;refine hK _ _ (fun _=>HK.o _ hb3) ?_;clear hK K hY3 ho3 hg3 hv3 hB2
   try simp only [Act.put,HeldZ.sm] at hinv |-
   refine HeldZ.one 27 hinv (by kernel_rfl) rfl rfl ?_;clear hinv;intro _ K hK;go_simp;refine hK _ _ (fun h=>absurd rfl h) ?_;refine HeldZ.done (by kernel_rfl) ?_ _;clear hS hK K HK HOw;go_wp2;go_roundw
   case rel=>exact ⟨k + 1,by go_num,by omega,Zz ⟨by rw [<- HY3.o];exact HO3.o,HB3.o⟩⟩
   case measure=>simp [intOf];omega
  ·
   have hd2:decide (k < I.length) = false:=dF hlt2;have HYn:Hid (Y = natZ (nums I)):=Zz (by rw [HYe.o,List.take_of_length_le (by omega)]);have hyl:Y.length = (nums I).length:=by rw [HYn.o,natZ_len]
   have HYl:=Zz hyl;have HBw:=Zz HJ.o.2;have k1:=HG1.o wr HBw.o;have HWd:=Zz (Ref2.width_calls E.length (by omega) wr);rw [<- HWide.o.1] at HWd;have HSec0:=Zz HSecs.o;obtain ⟨wd,hwd⟩:∃ wd,wd = wide T:=⟨_,rfl⟩;rw [<- hwd] at HWd HBits HSecs HBl;have HW9:Hid (wd <= 9):=Zz (by rw [hwd];exact HWide.o.2);have HPc:=Zz (Ref2.pack_calls (nums I) wd (by have:=HW9.o;omega) (by rw [nums_len];omega) (fun n hn=>⟨Zh (HBits.o n hn).1 (by decide),(HBits.o n hn).2⟩) A6 c6 wr (by
    have h1:=Kd.M_bound (Kd.own_sl (ok:=Clones.TT) (ok':=fun _=>True) HJ.o.1 (fun _ _=>trivial) (fun _ _=>trivial));rw [HYn.o,natZ_len] at h1;exact h1))
   rw [<- HYl.o] at HPc;obtain ⟨Pb,hPb⟩:∃ Pb,Pb = packB (nums I) wd:=⟨_,rfl⟩;rw [<- hPb] at HPc HSecs HBl;obtain ⟨Bd,hBd⟩:∃ Bd,Bd = headN I.length ++ Pb:=⟨_,rfl⟩;have HBd:=Zz hBd;rw [<- hBd] at HSecs HBl;obtain ⟨F,hF⟩:∃ F,F = frontB L:=⟨_,rfl⟩;have HFe:=Zz hF;rw [<- hF] at HSecs;have hPl:Pb.length <= 400:=by have:=HBl.o;rw [hBd,Zl] at this;omega
   clear hPb hBd hF hwd HJ hyl HRow;go_wp2_with (first
    | (go_at_call 77;refine HWd.o.mono ?_;rintro e w' ⟨rfl,rfl⟩)
    | (go_at_call 39;refine HPc.o.mono ?_;rintro e w9 ⟨⟨v9,rfl,ho9⟩,hb9⟩;have HB9:=Zz (bel_step HBw.o hb9);have HO9:=Zz ho9;clear ho9 hb9;obtain ⟨A9,c9,rfl,_,_⟩:=Kd.own_slice HO9.o))
   have HK0:Hid (∀ w',Below w9.heap.size w9 w' -> w'.cell? ⟨g,2,none⟩ = some (Value.slice A2 E.length c2)/\w'.cell? ⟨g,3,none⟩ = some (Value.slice A3 I.length c3)):=Zz (fun W hb=>⟨HG2.o W (bel_step HB9.o hb),HG3.o W (bel_step HB9.o hb)⟩);have HRr:=Zz (Kd.own_sl (ok:=Clones.TT) (ok':=fun _=>True) HO9.o (fun _ _=>trivial) (fun _ _=>trivial));have hcur:=bR w9.heap.size w9;obtain ⟨k2,k3⟩:=HK0.o w9 hcur;have HBy:=Zz (fun W (hb:Below w9.heap.size w9 W)=>Ref6.bytes_calls L (by rw [HTl.o];exact hE) (fun x hx=>by have:=HShort.o x hx;omega) A2 c2 W (HMS.o W (bel_step HB9.o hb)));rw [<- HFe.o] at HBy;have HMS2:=Zz HMS.o;rw [HTl.o] at HBy;have HQa:Hid (IntKind.u8.wrap ((I.length:Int) / 256) = (I.length:Int) / 256):=Zz (by rw [IntKind.wrap_u8'];omega);have HQb:Hid (IntKind.u8.wrap (I.length:Int) = (I.length:Int) % 256):=Zz (by rw [IntKind.wrap_u8']);clear k1 HMS HMS2;go_cut [7] (fun v7 wx=>Hid (byteK.own 5 wx w.heap.size Clones.TT v7 (encT T))/\Hid (Below w.heap.size w wx))
   case first =>
    go_region_held3 (fun w'=>w'.cell? ⟨g,2,none⟩ = some (Value.slice A2 E.length c2)/\w'.cell? ⟨g,3,none⟩ = some (Value.slice A3 I.length c3))
     (exact HK0.o _ (by repeat (first | exact bR _ _ | assumption | refine bel_drew ?_ | refine bel_alloc ?_ _)))
     (first
      | (go_at_call 41;refine (HBy.o _ ?bl).mono ?_;go_loud (case bl=>repeat (first | exact bR _ _ | assumption | refine bel_drew ?_ | refine bel_alloc ?_ _));rintro e w11 ⟨⟨v11,rfl,ho⟩,hb11⟩;have hcur:Below w9.heap.size w9 w11:=bel_step (by repeat (first | exact bR _ _ | assumption | refine bel_drew ?_ | refine bel_alloc ?_ _)) hb11;have HSf:=Zz (Kd.own_sl (ok:=Clones.TT) (ok':=fun _=>True) ho (fun _ _=>trivial) (fun _ _=>trivial));have hof:=StoreW.own_any any_u8 (ok':=Made.FF) ho;obtain ⟨A11,c11,rfl,_,_⟩:=Kd.own_slice ho;have HOf:=Zz hof;clear ho hof)
      | (refine Kd.own_app_step byteK (w0:=w9) w9.heap.size (by rfl) (.tmp 76) (.tmp 77) 55 5 (.int .u8 0) 1 (by rfl) underlying55 PackW.info_u8 rfl (by decide) (.slice (some ⟨w9.heap.size,0,none⟩) 2 2) (headN I.length) Pb A9 c9 Clones.TT (by rfl) (by rfl) ?ho (.inr ⟨?hr,any_u8⟩) ?hb ?hs ?hl ?_;go_loud (case ho=>(have hb:=hb11;rw [HQa.o,HQb.o] at hb;refine Kd.own_below ?_ hb;repeat (first | exact head_own _ _ _ (lR _) (by omega) | refine Kd.own_drew ?_)));go_loud (case hr=>exact byteK.sl.mono (fun _ _ _=>trivial) (Kd.M_below (Kd.M_bound HRr.o) hcur));go_loud (case hb=>exact hcur);go_loud (case hs=>exact hcur.size);go_loud (case hl=>have hh2:(headN I.length).length = 2:=rfl;omega);intro v1 w12 ho1 hb1 hg1 hv1;go_loud (rw [<- HBd.o] at ho1);have HSf12:=Zz (Kd.own_sl (ok:=Made.FF) (ok':=fun _=>True) (Kd.own_grown HOf.o hg1 (fun k h=>h.elim) (fun k hk e=>by have h1:=(Kd.own_lt HOf.o k hk).1;simp at h1;simp [Value.ownBlock] at e;omega)) (fun _ _=>trivial) (fun _ _=>trivial));have HSb12:=Zz (Kd.own_sl (ok:=Clones.TT) (ok':=fun _=>True) ho1 (fun _ _=>trivial) (fun _ _=>trivial));have hcur2:=hb1;obtain ⟨A12,c12,rfl,_,_⟩:=Kd.own_slice ho1;clear ho1 hg1 hv1)
      | (refine Kd.own_app_step byteK (w0:=w11) w11.heap.size (by rfl) (.tmp 76) (.tmp 77) 55 5 (.int .u8 0) 1 (by rfl) underlying55 PackW.info_u8 rfl (by decide) (.slice (some ⟨w11.heap.size,0,none⟩) 2 2) (headN I.length) Pb A9 c9 Clones.TT (by rfl) (by rfl) ?ho (.inr ⟨?hr,any_u8⟩) ?hb ?hs ?hl ?_;go_loud (case ho=>(rw [HQa.o,HQb.o];exact head_own _ _ _ (lR _) (by omega)));go_loud (case hr=>exact byteK.sl.mono (fun _ _ _=>trivial) (Kd.M_below (Kd.M_bound HRr.o) (bel_alloc hcur _)));go_loud (case hb=>exact bel_alloc (bR _ _) _);go_loud (case hs=>simp);go_loud (case hl=>have hh2:(headN I.length).length = 2:=rfl;omega);intro v1 w12 ho1 hb1 hg1 hv1;go_loud (rw [<- HBd.o] at ho1);have HSf12:=Zz (byteK.sl.mono (ok':=fun _=>True) (fun _ _ _=>trivial) (Kd.M_below (Kd.M_bound HSf.o) hb1));have HSb12:=Zz (Kd.own_sl (ok:=Clones.TT) (ok':=fun _=>True) ho1 (fun _ _=>trivial) (fun _ _=>trivial));have hcur2:Below w9.heap.size w9 w12:=bel_step hcur hb1;obtain ⟨A12,c12,rfl,_,_⟩:=Kd.own_slice ho1;clear ho1 hg1 hv1 hb1)
      | (go_at_call 40;refine (HPk.o _ _ (by rw [HSecs.o];exact two_secs HSf12.o HSb12.o (by omega) (by omega))).mono ?_;rintro e w13 ⟨⟨u,rfl,ho⟩,hb13⟩;obtain ⟨A13,c13,rfl,_,_⟩:=Kd.own_slice ho;have HB13:Below w9.heap.size w9 w13:=bel_step (bel_alloc hcur2 _) hb13;have HOe:=Zz (Kd.own_lower (base':=w.heap.size) (by have:=bel_step HB9.o hcur2;have:=this.size;simp;omega) ho);clear ho)
      | fail)
    all_goals (go_wp2_with fail;go_meet;exact ⟨HOe,Zz (bel_step HB9.o HB13)⟩)
   case rest =>
    obtain ⟨HO7,HB7⟩:=hcut;obtain ⟨A7,c7,rfl,_,_⟩:=Kd.own_slice HO7.o;go_wp2;go_ret;exact ⟨⟨_,rfl,HO7.o⟩,HB7.o⟩
end RefEnc
namespace RingC
open Go.RowKit Go.Lib B Rd TermPure LinesPure Tri SortP OrdG Cmp StoreW StoreM
theorem ring_calls (T:List Triple) (g:Nat) (w:World) (ok:Nat -> Prop) (h:StoreAt w ok g T) :
  Calls Tryz.prog 22 #[.pointer (some ⟨g,0,none⟩)] w fun e w'=>(∃ h,e = .returned (.pointer (some ⟨h,0,none⟩))/\RingAt w' ok h (idsT T))/\Below w.heap.size w w':=by
 obtain ⟨_,_,_,r,hr,hrr⟩:=h;have HR:=Zz hrr;clear hrr;go_enter func22,ntmps22;go_wp2;go_ret;exact ⟨⟨r,rfl,HR.o⟩,bR _ _⟩
end RingC
namespace TermAt
open Go.RowKit Go.Lib B Rd TermPure LinesPure Tri SortP OrdG Cmp StoreW Search
theorem term_none (T:List Triple) (id:Int) (hid:id < 1 \/ ((termsT T).length:Int) < id) (g:Nat) (w:World) (ok:Nat -> Prop) (h:StoreAt w ok g T) :
  Calls Tryz.prog 33 #[.pointer (some ⟨g,0,none⟩),.int .i64 id] w fun e w'=>e = .returned (.tuple #[.agg #[.int .i64 0,.string ⟨#[]⟩,.string ⟨#[]⟩],.bool false])/\Below w.heap.size w w':=by
 obtain ⟨_,_,⟨A,c,hc,hM⟩,_⟩:=h;obtain ⟨n,hn⟩:∃ n,n = (termsT T).length:=⟨_,rfl⟩;rw [<- hn] at hc hid;have hb:Below w.heap.size w (w.alloc (.cells #[.int .i64 0,.string ⟨#[]⟩,.string ⟨#[]⟩] 24)):=bel_alloc (bR _ _) _;have hc0:=(hb.cell (p:=⟨g,1,none⟩) (cell_lt hc)).trans hc;clear hM hn hb;go_enter func33,ntmps33;by_cases h1:id < 1
 ·
  have hd:decide (id < 1) = true:=dT h1;go_wp2;refine bodyPost_ret (v:=.tuple #[.agg #[.int .i64 0,.string ⟨#[]⟩,.string ⟨#[]⟩],.bool false]) (by simp [results,Tryz.results33,go_sem]) rfl ?_;exact ⟨rfl,bel_alloc (bR _ _) _⟩
 have hd:decide (id < 1) = false:=dF h1;have h2:(n:Int) < id:=hid.resolve_left h1;have hd2:decide ((n:Int) < id) = true:=dT h2;go_wp2;refine bodyPost_ret (v:=.tuple #[.agg #[.int .i64 0,.string ⟨#[]⟩,.string ⟨#[]⟩],.bool false]) (by simp [results,Tryz.results33,go_sem]) rfl ?_;exact ⟨rfl,bel_alloc (bR _ _) _⟩
theorem term_at (T:List Triple) (i:Nat) (hi:i < (termsT T).length) (h6:(termsT T).length <= 1000000) (g:Nat) (w:World) (ok:Nat -> Prop) (h:StoreAt w ok g T) :
  Calls Tryz.prog 33 #[.pointer (some ⟨g,0,none⟩),.int .i64 ((i + 1:Nat):Int)] w fun e w'=>e = .returned (.tuple #[Ref5.termV ((termsT T)[i]),.bool true])/\Below w.heap.size w w':=by
 obtain ⟨_,_,⟨A,c,hc,hM⟩,_⟩:=h;obtain ⟨b,off,rfl,_,hbs,hcells⟩:=term_cells hM (by omega);have hcx:=hcells i hi;obtain ⟨t,ht⟩:∃ t,t = (termsT T)[i]:=⟨_,rfl⟩;rw [<- ht] at hcx;rw [<- ht];obtain ⟨n,hn⟩:∃ n,n = (termsT T).length:=⟨_,rfl⟩;rw [<- hn] at hc hi h6;have hb:Below w.heap.size w (w.alloc (.cells #[.int .i64 0,.string ⟨#[]⟩,.string ⟨#[]⟩] 24)):=bel_alloc (bR _ _) _;have hc0:=(hb.cell (p:=⟨g,1,none⟩) (cell_lt hc)).trans hc;have hcy:=hcx.below hb;have y0:=hcy.c0;have y1:=hcy.c1;have y2:=hcy.c2;clear hM hn hb hcells ht hcx hcy;have d1:decide (((i:Int) + 1) < 1) = false:=dF (by omega);have d2:decide ((n:Int) < (i:Int) + 1) = false:=dF (by omega);have ik:(i:Int) < (n:Int):=by omega
 obtain ⟨tk,tx,te⟩:=t;unfold Ref5.termV;go_enter func33,ntmps33;go_wp2;refine bodyPost_ret (v:=.tuple #[.agg #[.int .i64 tk,.string (mkS tx),.string (mkS te)],.bool true]) (by simp [results,Tryz.results33,go_sem]) rfl ?_;exact ⟨rfl,bel_alloc (bR _ _) _⟩
end TermAt
end Go.Proofs.YtnplommdgfgboaaGreatDoor
