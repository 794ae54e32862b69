/-
  Texts of the claim, one behind the other: Ref5e, Ref5f, Tc, Ref5g, Ref5h, Tri, TriEq, Show, Bw, QT, Show2, Print, Cmp, TermW, SortT, StoreW, Search, Pack.
-/
import Derived.Test.YtnplommdgfgboaaGreatDoorJ2
import Derived.Deep.CutBlock
import Derived.Deep.Strs
import Derived.OpenShut
import Derived.ChangeSame
import Derived.Laws.StructEq
import Derived.WalkKit
import Derived.RegionTactic
import Derived.StillTail
import Derived.Deep.QuietTactic
import Derived.BigQuiet
import Derived.Sort.Walk0
import Derived.Laws.BitsAllLaws
set_option linter.unusedVariables false
set_option linter.unusedSimpArgs false
set_option maxHeartbeats 25600000
set_option maxRecDepth 100000
open Go.Proofs.Tryz
namespace Go.Proofs.YtnplommdgfgboaaGreatDoor
namespace Ref5
open Go.RowKit Go.Lib B Rd Utf TermPure LinesPure Tx Env
def tripleV (t:Triple):Value:=.agg #[.int .i64 t.s.kind,.string (mkS t.s.text),.string (mkS t.s.extra),.int .i64 t.p.kind,.string (mkS t.p.text),.string (mkS t.p.extra),.int .i64 t.o.kind,.string (mkS t.o.text),.string (mkS t.o.extra)]
def FitsT (t:Triple):Prop:=Fits t.s/\Fits t.p/\Fits t.o
def FitsB3 (t:Triple):Prop:=FitsB t.s/\FitsB t.p/\FitsB t.o
theorem is_kind (t:Term) (h:is t = true):1 <= t.kind/\t.kind <= 5:=by
 unfold is at h;by_cases h1:t.kind = 1
 ·
  omega
 ·
  by_cases h2:t.kind = 2
  ·
   omega
  ·
   by_cases h3:t.kind = 3
   ·
    omega
   ·
    by_cases h4:t.kind = 4
    ·
     omega
    ·
     by_cases h5:t.kind = 5
     ·
      omega
     ·
      rw [if_neg h1,if_neg h2,if_neg h3,if_neg h4,if_neg h5] at h;cases h
theorem isTriple_eq (t:Triple):isTriple t = (is t.s && (is t.p && (is t.o && (decide (t.s.kind <= 2) && (t.p.kind == 1))))):=by
 unfold isTriple;cases h:is t.s with
 | false=>rfl
 | true =>
  have:=is_kind _ h;congr 3;congr 1
  ·
   rw [Bool.eq_iff_iff];simp;omega
theorem is5w_calls (t:Triple) (ht:FitsB3 t) (w:World) (he:Env w) :
  Calls Tryz.prog 42 #[tripleV t] w fun e w'=>e = .returned (.bool (isTriple t))/\Below w.heap.size w w':=by
 have HI:=Zz (isTriple_eq t);obtain ⟨⟨k1,x1,y1⟩,⟨k2,x2,y2⟩,⟨k3,x3,y3⟩⟩:=t;obtain ⟨h1,h2,h3⟩:=ht;dsimp only at *;have HE:=Zz (he.below ((bR w.heap.size w).alloc (lR _) (.cells #[.int .i64 k1,.string (mkS x1),.string (mkS y1),.int .i64 k2,.string (mkS x2),.string (mkS y2),.int .i64 k3,.string (mkS x3),.string (mkS y3)] 36)));have HB:=Zz ((bR w.heap.size w).alloc (lR _) (.cells #[.int .i64 k1,.string (mkS x1),.string (mkS y1),.int .i64 k2,.string (mkS x2),.string (mkS y2),.int .i64 k3,.string (mkS x3),.string (mkS y3)] 36));have H1:=Zz (fun W hW=>is4w_calls ⟨k1,x1,y1⟩ h1 W hW);have H2:=Zz (fun W hW=>is4w_calls ⟨k2,x2,y2⟩ h2 W hW);have H3:=Zz (fun W hW=>is4w_calls ⟨k3,x3,y3⟩ h3 W hW);clear he h1 h2 h3;unfold termV at H1 H2 H3;dsimp only at H1 H2 H3;generalize is ⟨k1,x1,y1⟩ = r1 at *;generalize is ⟨k2,x2,y2⟩ = r2 at *;generalize is ⟨k3,x3,y3⟩ = r3 at *;unfold tripleV;dsimp only;go_enter func42,ntmps42;go_wp2_with fail;refine (H1.o _ HE.o).mono ?_;rintro e w1 ⟨rfl,hb1⟩;obtain ⟨hc1,hf1⟩:=bcell hb1;have hz1:w.heap.size < w1.heap.size:=by have:=hb1.size;simp at this;omega
 have HB1:=Zz (bel_step HB.o hb1);have HE1:=Zz (HE.o.below hb1);clear hb1;cases r1 with
 | false =>
  have HF:=Zz HI.o;go_wp2;go_ret;exact ⟨ret_bool (by rw [HI.o];rfl),HB1.o⟩
 | true =>
  go_wp2_with fail;refine (H2.o _ HE1.o).mono ?_;rintro e w2 ⟨rfl,hb2⟩;obtain ⟨hc2,hf2⟩:=bcell hb2;have hz2:w.heap.size < w2.heap.size:=by have:=hb2.size;omega
  have HB2:=Zz (bel_step HB1.o hb2);have HE2:=Zz (HE1.o.below hb2);clear hb2;cases r2 with
  | false =>
   go_wp2;go_ret;exact ⟨ret_bool (by rw [HI.o];rfl),HB2.o⟩
  | true =>
   go_wp2_with fail;refine (H3.o _ HE2.o).mono ?_;rintro e w3 ⟨rfl,hb3⟩;obtain ⟨hc3,hf3⟩:=bcell hb3;have hz3:w.heap.size < w3.heap.size:=by have:=hb3.size;omega
   have HB3:=Zz (bel_step HB2.o hb3);clear hb3;cases r3 with
   | false =>
    go_wp2;go_ret;exact ⟨ret_bool (by rw [HI.o];rfl),HB3.o⟩
   | true =>
    obtain ⟨q1,hq1⟩:∃ q:Bool,decide (k1 <= 2) = q:=⟨_,rfl⟩;obtain ⟨q2,hq2⟩:∃ q:Bool,(k2 == 1) = q:=⟨_,rfl⟩;have HF:=Zz (HI.o.trans (show _ = (q1 && q2) by rw [hq1,hq2];rfl));cases q1
    all_goals cases q2
    all_goals go_wp2
    all_goals go_ret
    all_goals exact ⟨ret_bool (by rw [HF.o];rfl),HB3.o⟩
theorem is5_calls (t:Triple) (ht:FitsT t) (w:World) (he:Env w) :
  Calls Tryz.prog 42 #[tripleV t] w fun e w'=>e = .returned (.bool (isTriple t))/\Below w.heap.size w w':=is5w_calls t (by obtain ⟨⟨a1,a2,a3⟩,⟨b1,b2,b3⟩,⟨c1,c2,c3⟩⟩:=ht;exact ⟨⟨a1,by omega,by omega⟩,⟨b1,by omega,by omega⟩,⟨c1,by omega,by omega⟩⟩) w he
theorem lower_yes (b:UInt8) (h1:65 <= b.toNat) (h2:b.toNat <= 90):((lowerB b).toNat:Int) = (b.toNat:Int) + 32:=by
 have hu:isUpperB b = true:=by
  unfold isUpperB;simp [UInt8.le_iff_toNat_le];omega
 rw [lowerB,if_pos hu,UInt8.toNat_add];have:(32:UInt8).toNat = 32:=rfl;omega
theorem lower_no (b:UInt8) (h:¬ (65 <= b.toNat/\b.toNat <= 90)):lowerB b = b:=by
 have hu:isUpperB b = false:=by
  unfold isUpperB;simp [UInt8.le_iff_toNat_le];omega
 rw [lowerB,hu]
 try rfl
theorem small_calls (s:List UInt8) (hs:s.length <= 70368744177664) (w:World) :
  Calls Tryz.prog 219 #[.string (mkS s)] w fun e w'=>e = .returned (.string (mkS (toLowerA s)))/\Below w.heap.size w w':=by
 obtain ⟨cap,o,hc1,hc2,hcv,ho⟩:=bytes_conv s hs w;have ho':=ho w rfl;have HC0:=Zz (fun k h=>(ho' k h).1);have HF0:=Zz (fun k h=>(ho' k h).2);clear ho ho';go_enter func219,ntmps219;go_wp2;go_loopw [4] (fun vi wr=>∃ k:Nat,k <= s.length/\vi = .int .i64 k/\Hid (Below w.heap.size w wr)/\Hid (∀ i (h:i < s.length),wr.cell? ⟨w.heap.size,i,none⟩ = some (.int .u8 ((if i < k then lowerB s[i] else s[i]).toNat:Int)))/\Hid (∀ i (h:i < s.length),wr.frozen? ⟨w.heap.size,i,none⟩ = false)) (fun vi _=>s.length - (intOf vi).toNat)
 case atStart=>exact ⟨0,by omega,rfl,Zz (bel_drew (bel_alloc (bR _ _) _)),Zz (fun i h=>(HC0.o i h).trans (by simp)),Zz (fun i h=>HF0.o i h)⟩
 case round =>
  obtain ⟨k,hk,rfl,HB,HC,HF⟩:=hrel;by_cases hlt:k < s.length
  ·
   have hd:decide (k < s.length) = true:=dT hlt;have ik:(k:Int) < (s.length:Int):=by omega
   have ik0:(0:Int) <= (k:Int):=by omega
   have hcell:=HC.o k hlt;rw [if_neg (by omega)] at hcell;have hfr:=HF.o k hlt;obtain ⟨b,hb0⟩:∃ b,s[k] = b:=⟨_,rfl⟩;rw [hb0] at hcell;have HB0:=Zz hb0;have hbl:=b.toNat_lt;clear hb0;by_cases h1:65 <= b.toNat/\b.toNat <= 90
   ·
    obtain ⟨h1,h2⟩:=h1;have e1:decide (65 <= (b.toNat:Int)) = true:=dT (by omega);have e2:decide ((b.toNat:Int) <= 90) = true:=dT (by omega);have i2:(b.toNat:Int) <= 90:=by omega
    have HL:=Zz (lower_yes b h1 h2);go_wp2;go_roundw
    case rel =>
     refine ⟨k + 1,by omega,by go_num,Zz (bel_set HB.o (lR _) _),Zz ?_,Zz ?_⟩
     ·
      intro i hi;by_cases e:i = k
      ·
       subst e;rw [World.cell?_setCell_same _ _ _ hcell,if_pos (by omega),HB0.o,HL.o]
      ·
       rw [Zo _ _ _ _ (by simp;try omega),HC.o i hi];by_cases h:i < k
       ·
        rw [if_pos h,if_pos (by omega)]
       ·
        rw [if_neg h,if_neg (by omega)]
     ·
      intro i hi;rw [World.frozen?_setCell];exact HF.o i hi
    case measure=>simp [intOf];omega
   ·
    have e1:(decide (65 <= (b.toNat:Int)) && decide ((b.toNat:Int) <= 90)) = false:=by simp;omega
    have HL:=Zz (lower_no b h1);have h3:(decide (65 <= (b.toNat:Int)) = false) \/ (decide (65 <= (b.toNat:Int)) = true/\decide ((b.toNat:Int) <= 90) = false):=by simp;omega
    clear h1 e1;rcases h3 with h3 | ⟨h3,h4⟩
    all_goals
     go_wp2;go_roundw
     case rel =>
      refine ⟨k + 1,by omega,by go_num,HB,Zz ?_,HF⟩;intro i hi;rw [HC.o i hi];by_cases e:i = k
      ·
       subst e;rw [if_neg (by omega),if_pos (by omega),HB0.o,HL.o]
      ·
       by_cases h:i < k
       ·
        rw [if_pos h,if_pos (by omega)]
       ·
        rw [if_neg h,if_neg (by omega)]
     case measure=>simp [intOf];omega
  ·
   obtain rfl:k = s.length:=by omega
   have hback:=run_convert_bytes_back (P:=Tryz.prog) wr 55 9 5 ⟨w.heap.size,0,none⟩ cap (toLowerA s) underlying55 underlying5 underlying9 (fun j hj=>by
    have hj':j < s.length:=by simpa [toLowerA] using hj
    rw [add_plain,HC.o j hj',if_pos hj'];simp [toLowerA])
   rw [show (toLowerA s).length = s.length by simp [toLowerA]] at hback;go_wp2;go_ret;exact ⟨rfl,HB.o⟩
end Ref5
namespace Ref5
open Go.RowKit Go.Lib B Rd Utf TermPure LinesPure Tx Env
def TermPost (w:World) (rb:Nat) (r:Option (Term × List UInt8)) (e:Ending) (w':World):Prop:=match r with
 | none=>(∃ t:Term,e = .returned (termV t)/\Fits t)/\Step w w' rb [] true
 | some (t,q)=>(e = .returned (termV t)/\Fits t)/\Step w w' rb q false
theorem up_len (stop:UInt8) (lit nl:Bool):∀ (n:Nat) (l:List UInt8),l.length <= n -> ∀ o r,up stop lit nl l = some (o,r) -> o.length + r.length < l.length
 | n,[],h,o,r,hu=>by rw [up_nil] at hu;cases hu
 | 0,b :: l,h,o,r,hu=>by simp at h
 | n + 1,b :: l,h,o,r,hu=>by
  simp at h
  by_cases h1:b = stop
  ·
   subst h1
   rw [up_stop] at hu
   cases hu
   simp
  ·
   by_cases h2:b = 92
   ·
    cases he:esc lit l with
    | none=>rw [up_esc_none stop lit nl b l h1 h2 he] at hu;cases hu
    | some p =>
     obtain ⟨o1,r1⟩:=p
     rw [up_esc stop lit nl b l o1 r1 h1 h2 he] at hu
     have hl:=esc_len2 lit l o1 r1 he
     cases hv:up stop lit nl r1 with
     | none=>rw [hv] at hu;cases hu
     | some q =>
      obtain ⟨o2,r2⟩:=q
      rw [hv] at hu
      cases hu
      have:=up_len stop lit nl n r1 (by omega) o2 r2 hv
      simp
      omega
   ·
    by_cases h3:nl = true/\(b = 10 \/ b = 13)
    ·
     rw [up_line stop lit nl b l h1 h2 h3] at hu;cases hu
    ·
     rw [up_other stop lit nl b l h1 h2 h3] at hu
     cases hv:up stop lit nl l with
     | none=>rw [hv] at hu;cases hu
     | some q =>
      obtain ⟨o2,r2⟩:=q
      rw [hv] at hu
      cases hu
      have:=up_len stop lit nl n l (by omega) o2 r2 hv
      simp
      omega
theorem run_fst_len (d:Bool) (l:List UInt8):(run d l).1.length <= l.length:=by
 unfold run;exact List.Sublist.length_le (List.takeWhile_sublist _)
theorem run_snd_len (d:Bool) (l:List UInt8):(run d l).2.length <= l.length:=by
 unfold run;exact List.Sublist.length_le (List.dropWhile_sublist _)
theorem low_len (l:List UInt8):(toLowerA l).length = l.length:=by simp [toLowerA]
theorem caret3 (r:List UInt8):([94,94,60]:List UInt8).isPrefixOf r = (([94,94]:List UInt8).isPrefixOf r && ([60]:List UInt8).isPrefixOf (r.drop 2)):=by
 rcases r with _ | ⟨a,_ | ⟨b,r⟩⟩
 ·
  rfl
 ·
  show (94 == a && false) = ((94 == a && false) && _);simp
 ·
  show (94 == a && (94 == b && ([60]:List UInt8).isPrefixOf r)) = ((94 == a && (94 == b && true)) && ([60]:List UInt8).isPrefixOf r);rw [Bool.and_true,Bool.and_assoc]
theorem literal_calls (rb:Nat) (s:List UInt8) (w:World) (h:At w rb s false) :
  Calls Tryz.prog 189 #[.pointer (some ⟨rb,0,none⟩)] w fun e w'=>TermPost w rb (literal true s) e w':=by
 have hlt:=h.lt;have hlen:=h.len;have HA0:=Zz h;have HB0:=Zz (bel_alloc (bR w.heap.size w) (.cells #[.int .i64 0,.string (mkS []),.string (mkS [])] 24));have HA:=Zz (h.kept HB0.o);have hne0:¬ w.heap.size = rb:=by omega
 clear h;have HL:Hid (literal true s = match up 34 true true s with
 | none=>none
 | some (t,r) =>
  if [64].isPrefixOf r = true then some (⟨4,t,toLowerA (run true (r.drop 1)).1⟩,(run true (r.drop 1)).2)
  else if [94,94].isPrefixOf r = true then
   if [60].isPrefixOf (r.drop 2) = true then (up 62 false true (r.drop 3)).map fun x=>(⟨5,t,x.1⟩,x.2)
   else if true = true then some (⟨3,t,[]⟩,r) else none
  else some (⟨3,t,[]⟩,r)):=Zz rfl
 go_enter func189,ntmps189;go_wp2_with fail;refine (upTo_calls rb s false true 34 _ HA.o).mono ?_;intro e w1 hp;have UL:=up_len 34 true true s.length s (lR _);cases hu:up 34 true true s with
 | none =>
  rw [hu] at hp HL;obtain ⟨rfl,hs1⟩:=hp;obtain ⟨hc1,hf1⟩:=gcell hs1.grown;have hz1:=hs1.grown.size;have hz1':w.heap.size < w1.heap.size:=by simp at hz1;omega
  have HS1:=Zz (hs1.from HB0.o);have hne1:¬ w1.heap.size = rb:=by omega
  have hne2:¬ w.heap.size = w1.heap.size:=by omega
  have hne3:¬ w1.heap.size = w.heap.size:=by omega
  have HA1:=Zz (fun W (hb:Below w1.heap.size w1 W)=>hs1.at'.kept hb);clear hu hs1 hz1 UL;go_wp2_with fail;refine (has_calls rb [] [64] true (by decide) _ (HA1.o _ (bel_alloc (bR _ _) _))).mono ?_;rintro e w2 ⟨rfl,rfl⟩;rw [show ([64]:List UInt8).isPrefixOf [] = false from rfl];go_wp2_with fail;refine (has_calls rb [] [94,94,60] true (by decide) _ (HA1.o _ (bel_alloc (bR _ _) _))).mono ?_;rintro e w2 ⟨rfl,rfl⟩;rw [show ([94,94,60]:List UInt8).isPrefixOf [] = false from rfl];go_wp2;refine bodyPost_ret (v:=termV ⟨3,[],[]⟩) (by simp [results,Tryz.results189,go_sem,hne0,hne2,hne3,hc1,hz1',termV,mkS_nil]) rfl ?_;rw [HL.o];refine ⟨⟨_,rfl,by simp,by simp,by simp⟩,?_⟩;clear hc1 hf1
  repeat first | exact HS1.o | refine Step.alloc ?_ _ | refine Step.other ?_ (by omega) (by omega) _
 | some p =>
  obtain ⟨t,r⟩:=p;have hlen2:=UL t r hu;rw [hu] at hp HL;obtain ⟨rfl,hs1⟩:=hp;dsimp only at HL;obtain ⟨hc1,hf1⟩:=gcell hs1.grown;have hz1:=hs1.grown.size;have hz1':w.heap.size < w1.heap.size:=by simp at hz1;omega
  have HS1:=Zz (hs1.from HB0.o);have hne1:¬ w1.heap.size = rb:=by omega
  have hne2:¬ w.heap.size = w1.heap.size:=by omega
  have hne3:¬ w1.heap.size = w.heap.size:=by omega
  have hr1:rb < w1.heap.size:=by omega
  have HA1:=Zz (fun W (hb:Below w1.heap.size w1 W)=>hs1.at'.kept hb);obtain ⟨a0,a1,b0,b1,_⟩:=hs1.at';have zr:=mkS_size r;have hrl:r.length <= 70368744177664:=by omega
  clear hu hs1 hz1 UL HA HA0;go_wp2_with fail;refine (has_calls rb r [64] false (by decide) _ (HA1.o _ (bel_alloc (bR _ _) _))).mono ?_;rintro e w2 ⟨rfl,rfl⟩;cases c1:([64]:List UInt8).isPrefixOf r with
  | true =>
   have hl1:=prefix_len _ _ c1;have HD:=Zz (HL.o.trans (if_pos c1));have hx:=drop1 r;have hi1:(1:Int) <= (r.length:Int):=by simp at hl1;omega
   obtain ⟨q,hq⟩:∃ q,r.drop 1 = q:=⟨_,rfl⟩;have hql:q.length <= r.length:=by rw [<- hq];simp
   rw [hq] at HD hx;clear c1 HL hq;have HS2:=Zz ((HS1.o.set0 (t:=q) (by omega)).alloc (.cells #[.int .i64 3,.string (mkS t),.string (mkS [])] 24));go_wp2_with fail;refine (run_calls rb q false true _ HS2.o.at').mono ?_;rintro e w2 ⟨rfl,hs2⟩;obtain ⟨hc2,hf2⟩:=gcell hs2.grown;have hz2:w1.heap.size < w2.heap.size:=by have:=hs2.grown.size;simp at this;omega
   have hz2':w.heap.size < w2.heap.size:=by omega
   have hrl:=run_fst_len true q;have hrl2:=run_snd_len true q;generalize run true q = pr at *;obtain ⟨ru,rq⟩:=pr;dsimp only at *;have HS3:=Zz (HS2.o.trans hs2);clear hs2;go_wp2_with fail;refine (small_calls ru (by omega) _).mono ?_;rintro e w3 ⟨rfl,hb3⟩;obtain ⟨hc3,hf3⟩:=bcell hb3;have hz3:w1.heap.size < w3.heap.size:=by have:=hb3.size;omega
   have hz3':w.heap.size < w3.heap.size:=by omega
   have HS4:=Zz (HS3.o.below hb3);have hll:=low_len ru;generalize toLowerA ru = lo at *;clear hb3;go_wp2;have q:∀ o,w3.cell? ⟨w.heap.size,o,none⟩ = w1.cell? ⟨w.heap.size,o,none⟩:=fun o=>by
    rw [hc3 _ _ hz2',hc2 _ _ (by simp;omega) hne0];simp [go_sem,hne0,hne1,hne2,hne3,hz1']
   have k0:w3.cell? ⟨w.heap.size,0,none⟩ = some (.int .i64 0):=by rw [q];simp [go_sem,hc1,hne0]
   have k1:w3.cell? ⟨w.heap.size,1,none⟩ = some (.string (mkS [])):=by rw [q];simp [go_sem,hc1,hne0]
   have k2:w3.cell? ⟨w.heap.size,2,none⟩ = some (.string (mkS [])):=by rw [q];simp [go_sem,hc1,hne0]
   refine bodyPost_ret (v:=termV ⟨4,t,lo⟩) (by simp [results,Tryz.results189,go_sem,hne0,hne1,hne2,hne3,hz1',hz2,hz2',hz3,hz3',k0,k1,k2,termV,mkS_nil]) rfl ?_;rw [HD.o];refine ⟨⟨rfl,by simp,by simp;omega,by simp;omega⟩,?_⟩;clear hc1 hf1 hc2 hf2 hc3 hf3
   repeat first | exact HS4.o | refine Step.alloc ?_ _ | refine Step.other ?_ (by omega) (by omega) _
  | false =>
   have HD:=Zz (HL.o.trans (if_neg (by rw [c1];decide)));have K3:=Zz (caret3 r);clear c1 HL;go_wp2_with fail;refine (has_calls rb r [94,94,60] false (by decide) _ (HA1.o _ (bel_alloc (bR _ _) _))).mono ?_;rintro e w2 ⟨rfl,rfl⟩;cases c3:([94,94,60]:List UInt8).isPrefixOf r with
   | true =>
    have hl1:=prefix_len _ _ c3;have hk:=K3.o.symm.trans c3;rw [Bool.and_eq_true] at hk;have HD2:=Zz (HD.o.trans ((if_pos hk.1).trans (if_pos hk.2)));have hx:=drop3 r;have hi1:(3:Int) <= (r.length:Int):=by simp at hl1;omega
    obtain ⟨q,hq⟩:∃ q,r.drop 3 = q:=⟨_,rfl⟩;have hql:q.length <= r.length:=by rw [<- hq];simp
    rw [hq] at HD2 hx;clear c3 HD hq hk K3;have HS2:=Zz ((HS1.o.set0 (t:=q) (by omega)).alloc (.cells #[.int .i64 3,.string (mkS t),.string (mkS [])] 24));go_wp2_with fail;refine (upTo_calls rb q false false 62 _ HS2.o.at').mono ?_;intro e w2 hp;have UL2:=up_len 62 false true q.length q (lR _);cases hu2:up 62 false true q with
    | none =>
     rw [hu2] at hp HD2;obtain ⟨rfl,hs2⟩:=hp;obtain ⟨hc2,hf2⟩:=gcell hs2.grown;have hz2:w1.heap.size < w2.heap.size:=by have:=hs2.grown.size;simp at this;omega
     have hz2':w.heap.size < w2.heap.size:=by omega
     have HS3:=Zz (HS2.o.trans hs2);clear hs2 hu2 UL2;go_wp2;have q:∀ o,w2.cell? ⟨w.heap.size,o,none⟩ = w1.cell? ⟨w.heap.size,o,none⟩:=fun o=>by
      rw [hc2 _ _ (by simp;omega) hne0];simp [go_sem,hne0,hne1,hne2,hne3,hz1']
     have k0:w2.cell? ⟨w.heap.size,0,none⟩ = some (.int .i64 0):=by rw [q];simp [go_sem,hc1,hne0]
     have k1:w2.cell? ⟨w.heap.size,1,none⟩ = some (.string (mkS [])):=by rw [q];simp [go_sem,hc1,hne0]
     have k2:w2.cell? ⟨w.heap.size,2,none⟩ = some (.string (mkS [])):=by rw [q];simp [go_sem,hc1,hne0]
     refine bodyPost_ret (v:=termV ⟨5,t,[]⟩) (by simp [results,Tryz.results189,go_sem,hne0,hne1,hne2,hne3,hz1',hz2,hz2',k0,k1,k2,termV,mkS_nil]) rfl ?_;rw [HD2.o];refine ⟨⟨_,rfl,by simp,by simp;omega,by simp⟩,?_⟩;clear hc1 hf1 hc2 hf2
     repeat first | exact HS3.o | refine Step.alloc ?_ _ | refine Step.other ?_ (by omega) (by omega) _
    | some p2 =>
     obtain ⟨x,y⟩:=p2;have hxy:=UL2 x y hu2;rw [hu2] at hp HD2;obtain ⟨rfl,hs2⟩:=hp;obtain ⟨hc2,hf2⟩:=gcell hs2.grown;have hz2:w1.heap.size < w2.heap.size:=by have:=hs2.grown.size;simp at this;omega
     have hz2':w.heap.size < w2.heap.size:=by omega
     have HS3:=Zz (HS2.o.trans hs2);clear hs2 hu2 UL2;go_wp2;have q:∀ o,w2.cell? ⟨w.heap.size,o,none⟩ = w1.cell? ⟨w.heap.size,o,none⟩:=fun o=>by
      rw [hc2 _ _ (by simp;omega) hne0];simp [go_sem,hne0,hne1,hne2,hne3,hz1']
     have k0:w2.cell? ⟨w.heap.size,0,none⟩ = some (.int .i64 0):=by rw [q];simp [go_sem,hc1,hne0]
     have k1:w2.cell? ⟨w.heap.size,1,none⟩ = some (.string (mkS [])):=by rw [q];simp [go_sem,hc1,hne0]
     have k2:w2.cell? ⟨w.heap.size,2,none⟩ = some (.string (mkS [])):=by rw [q];simp [go_sem,hc1,hne0]
     refine bodyPost_ret (v:=termV ⟨5,t,x⟩) (by simp [results,Tryz.results189,go_sem,hne0,hne1,hne2,hne3,hz1',hz2,hz2',k0,k1,k2,termV,mkS_nil]) rfl ?_;rw [HD2.o];refine ⟨⟨rfl,by simp,by simp;omega,by simp;omega⟩,?_⟩;clear hc1 hf1 hc2 hf2
     repeat first | exact HS3.o | refine Step.alloc ?_ _ | refine Step.other ?_ (by omega) (by omega) _
   | false =>
    have HD2:Hid (literal true s = some (⟨3,t,[]⟩,r)):=Zz (by
     rw [HD.o];by_cases h1:([94,94]:List UInt8).isPrefixOf r = true
     ·
      rw [if_pos h1];have h2:([60]:List UInt8).isPrefixOf (r.drop 2) = false:=by
       have:=K3.o.symm.trans c3;rw [h1,Bool.true_and] at this;exact this
      rw [if_neg (by rw [h2];decide),if_pos trivial]
     ·
      rw [if_neg h1])
    clear c3 HD K3;go_wp2;refine bodyPost_ret (v:=termV ⟨3,t,[]⟩) (by simp [results,Tryz.results189,go_sem,hne0,hne1,hne2,hne3,hc1,hz1',termV,mkS_nil]) rfl ?_;rw [HD2.o];refine ⟨⟨rfl,by simp,by simp;omega,by simp⟩,?_⟩;clear hc1 hf1
    repeat first | exact HS1.o | refine Step.alloc ?_ _ | refine Step.other ?_ (by omega) (by omega) _
end Ref5
namespace Tc
open Go.RowKit Go.Lib B Rd TermPure Ref5
structure TC (W:World) (g o:Nat) (t:Term):Prop where
 c0:W.cell? ⟨g,o,none⟩ = some (.int .i64 t.kind)
 c1:W.cell? ⟨g,o + 1,none⟩ = some (.string (mkS t.text))
 c2:W.cell? ⟨g,o + 2,none⟩ = some (.string (mkS t.extra))
 f0:W.frozen? ⟨g,o,none⟩ = false
 f1:W.frozen? ⟨g,o + 1,none⟩ = false
 f2:W.frozen? ⟨g,o + 2,none⟩ = false
theorem TC.lt {W:World} {g o:Nat} {t:Term} (h:TC W g o t):g < W.heap.size:=World.block_lt_of_cell? W ⟨g,o,none⟩ h.c0
theorem TC.moved {W W1:World} {g o:Nat} {t:Term} (h:TC W g o t) (hc:∀ o,W1.cell? ⟨g,o,none⟩ = W.cell? ⟨g,o,none⟩) (hf:∀ o,W1.frozen? ⟨g,o,none⟩ = W.frozen? ⟨g,o,none⟩):TC W1 g o t:=
 ⟨(hc _).trans h.c0,(hc _).trans h.c1,(hc _).trans h.c2,(hf _).trans h.f0,(hf _).trans h.f1,(hf _).trans h.f2⟩
theorem TC.below {W W1:World} {g o:Nat} {t:Term} (h:TC W g o t) (hb:Below W.heap.size W W1):TC W1 g o t:=
 h.moved (fun o=>(bcell hb).1 g o h.lt) (fun o=>(bcell hb).2 g o h.lt)
theorem TC.grown {W W1:World} {g o rb:Nat} {t:Term} (h:TC W g o t) (hg:W.grownBy W1 (some rb)) (hne:¬ g = rb):TC W1 g o t:=
 h.moved (fun o=>(gcell hg).1 g o h.lt hne) (fun o=>(gcell hg).2 g o h.lt hne)
theorem TC.alloc {W:World} {g o:Nat} {t:Term} (h:TC W g o t) (x:Obj):TC (W.alloc x) g o t:=h.below ((bR _ _).alloc (lR _) x)
theorem TC.other {W:World} {g o g' j:Nat} {t:Term} (h:TC W g o t) (hne:¬ g = g') (u:Value):TC (W.setCell ⟨g',j,none⟩ u) g o t:=
 h.moved (fun o=>Zo _ _ _ _ (by simp;try (intro e;exact absurd e.symm hne))) (fun o=>World.frozen?_setCell _ _ _ _)
theorem TC.new (w:World) (t:Term):TC (w.alloc (.cells #[.int .i64 t.kind,.string (mkS t.text),.string (mkS t.extra)] 24)) w.heap.size 0 t:=by
 constructor
 all_goals first | (unfold World.cell?;dsimp only;rw [Kd.heap_new];rfl) | (unfold World.frozen?;dsimp only;rw [Kd.heap_new];rfl)
theorem TC.set {W:World} {g o:Nat} {t0:Term} (h:TC W g o t0) (t:Term):TC (((W.setCell ⟨g,o,none⟩ (.int .i64 t.kind)).setCell ⟨g,o + 1,none⟩ (.string (mkS t.text))).setCell ⟨g,o + 2,none⟩ (.string (mkS t.extra))) g o t:=by
 have e1:(W.setCell ⟨g,o,none⟩ (.int .i64 t.kind)).cell? ⟨g,o,none⟩ = some (.int .i64 t.kind):=World.cell?_setCell_same _ _ _ h.c0;have e2:(W.setCell ⟨g,o,none⟩ (.int .i64 t.kind)).cell? ⟨g,o + 1,none⟩ = _:=(Zo _ _ _ _ (by simp)).trans h.c1;have e3:((W.setCell ⟨g,o,none⟩ (.int .i64 t.kind)).setCell ⟨g,o + 1,none⟩ (.string (mkS t.text))).cell? ⟨g,o + 2,none⟩ = _:=(Zo _ _ _ _ (by simp)).trans ((Zo _ _ _ _ (by simp)).trans h.c2);refine ⟨?_,?_,World.cell?_setCell_same _ _ _ e3,?_,?_,?_⟩
 ·
  rw [Zo _ _ _ _ (by simp),Zo _ _ _ _ (by simp)];exact e1
 ·
  rw [Zo _ _ _ _ (by simp)];exact World.cell?_setCell_same _ _ _ e2
 ·
  simp only [World.frozen?_setCell];exact h.f0
 ·
  simp only [World.frozen?_setCell];exact h.f1
 ·
  simp only [World.frozen?_setCell];exact h.f2
theorem TC.apart {W:World} {g o j:Nat} {t:Term} (h:TC W g o t) (h0:j ≠ o) (h1:j ≠ o + 1) (h2:j ≠ o + 2) (u:Value):TC (W.setCell ⟨g,j,none⟩ u) g o t:=
 ⟨(Zo _ _ _ _ (by simp;try omega)).trans h.c0,(Zo _ _ _ _ (by simp;try omega)).trans h.c1,(Zo _ _ _ _ (by simp;try omega)).trans h.c2,
  (World.frozen?_setCell _ _ _ _).trans h.f0,(World.frozen?_setCell _ _ _ _).trans h.f1,(World.frozen?_setCell _ _ _ _).trans h.f2⟩
theorem TC.setK {W:World} {g o:Nat} {t:Term} (h:TC W g o t) (k:Int):TC (W.setCell ⟨g,o,none⟩ (.int .i64 k)) g o ⟨k,t.text,t.extra⟩:=
 ⟨World.cell?_setCell_same _ _ _ h.c0,(Zo _ _ _ _ (by simp)).trans h.c1,(Zo _ _ _ _ (by simp)).trans h.c2,
  (World.frozen?_setCell _ _ _ _).trans h.f0,(World.frozen?_setCell _ _ _ _).trans h.f1,(World.frozen?_setCell _ _ _ _).trans h.f2⟩
def zeroT:Term:=⟨0,[],[]⟩
end Tc
namespace Ref5
open Go.RowKit Go.Lib B Rd Utf TermPure LinesPure Tx Env Tc
def RawPost (w:World) (rb g2 g3:Nat) (s:List UInt8) (wx:World):Prop:=
 ∃ t:Term,Fits t/\TC wx g3 0 t/\TC wx g2 0 zeroT /\
  ((rawTerm true s = none/\Step w wx rb [] true) \/ (∃ q,Step w wx rb q false/\(rawTerm true s = some (t,q) \/ (rawTerm true s = none/\is t = false))))
theorem two_zero {w:World} (W:World) (h:W.heap.size = w.heap.size) :
  TC ((W.alloc (.cells #[.int .i64 0,.string (mkS []),.string (mkS [])] 24)).alloc (.cells #[.int .i64 0,.string (mkS []),.string (mkS [])] 24)) w.heap.size 0 zeroT /\
  TC ((W.alloc (.cells #[.int .i64 0,.string (mkS []),.string (mkS [])] 24)).alloc (.cells #[.int .i64 0,.string (mkS []),.string (mkS [])] 24)) (w.heap.size + 1) 0 zeroT:=by
 refine ⟨?_,?_⟩
 ·
  rw [<- h];exact (TC.new W zeroT).alloc _
 ·
  rw [<- h];have:=TC.new (W.alloc (.cells #[.int .i64 0,.string (mkS []),.string (mkS [])] 24)) zeroT;simpa [zeroT] using this
theorem term_calls (rb:Nat) (s:List UInt8) (w:World) (he:Env w) (hrb:lowB <= rb) (h:At w rb s false) :
  Calls Tryz.prog 148 #[.pointer (some ⟨rb,0,none⟩)] w fun e w'=>TermPost w rb ((term true s).map fun x=>(x.1,blanks x.2)) e w':=by
 have hlt:=h.lt;have hlen:=h.len;have HE:=Zz he;have HS0:=Zz (((Step.refl h).alloc (.cells #[.int .i64 0,.string (mkS []),.string (mkS [])] 24)).alloc (.cells #[.int .i64 0,.string (mkS []),.string (mkS [])] 24));have HT:=Zz (two_zero (w:=w));have T2:=Zz (HT.o w rfl).1;have T3:=Zz (HT.o w rfl).2;have HSr:=Zz (Step.refl h);have hn2:¬ w.heap.size = rb:=by omega
 have hn3:¬ w.heap.size + 1 = rb:=by omega
 have hz3:w.heap.size < w.heap.size + 1:=by omega
 have HR:Hid (rawTerm true s = if ([60]:List UInt8).isPrefixOf s = true then (up 62 false true (s.drop 1)).map fun x=>(⟨1,x.1,[]⟩,x.2)
  else if ([95,58]:List UInt8).isPrefixOf s = true then some (⟨2,(run false (s.drop 2)).1,[]⟩,(run false (s.drop 2)).2)
  else if ([34]:List UInt8).isPrefixOf s = true then literal true (s.drop 1)
  else none):=Zz rfl
 obtain ⟨a0,a1,b0,b1,_⟩:=h;have zs:=mkS_size s;clear he;go_enter func148,ntmps148;go_upto_block 0 with fail;go_cut [] (fun wx=>Hid (RawPost w rb w.heap.size (w.heap.size + 1) s wx))
 case first =>
  go_wp2_with fail;refine (has_calls rb s [60] false (by decide) _ HS0.o.at').mono ?_;rintro e w2 ⟨rfl,rfl⟩;cases c1:([60]:List UInt8).isPrefixOf s with
  | true =>
   have HD:=Zz (HR.o.trans (if_pos c1));have hl1:=prefix_len _ _ c1;have hx:=drop1 s;have hi1:(1:Int) <= (s.length:Int):=by simp at hl1;omega
   obtain ⟨q,hq⟩:∃ q,s.drop 1 = q:=⟨_,rfl⟩;have hql:q.length <= s.length:=by rw [<- hq];simp
   rw [hq] at HD hx;clear c1 hq;have HS1:=Zz (((HSr.o.set0 (t:=q) (by omega)).alloc (.cells #[.int .i64 0,.string (mkS []),.string (mkS [])] 24)).alloc (.cells #[.int .i64 0,.string (mkS []),.string (mkS [])] 24));have HT3:=Zz (HT.o (w.setCell ⟨rb,0,none⟩ (.string (mkS q))) (World.size_setCell _ _ _)).2;have HT2:=Zz (HT.o (w.setCell ⟨rb,0,none⟩ (.string (mkS q))) (World.size_setCell _ _ _)).1;go_wp2_with fail;refine (upTo_calls rb q false false 62 _ HS1.o.at').mono ?_;intro e w2 hp;have UL2:=up_len 62 false true q.length q (lR _);obtain ⟨hc0,hf0⟩:True/\True:=⟨trivial,trivial⟩;cases hu2:up 62 false true q with
   | none =>
    rw [hu2] at hp HD;obtain ⟨rfl,hs2⟩:=hp;have HS2:=Zz (HS1.o.trans hs2);have HU3:=Zz (HT3.o.grown hs2.grown hn3);have HU2:=Zz (HT2.o.grown hs2.grown hn2);obtain ⟨k0,k1,k2,l0,l1,l2⟩:=HU3.o;simp only [Nat.zero_add] at k1 k2 l1 l2;clear hc0 hf0;clear hs2 hu2 UL2;go_wp2;go_meet;refine Zz ⟨⟨1,[],[]⟩,⟨by simp,by simp,by simp⟩,HU3.o.set ⟨1,[],[]⟩,((HU2.o.other (Nat.ne_of_lt hz3) _).other (Nat.ne_of_lt hz3) _).other (Nat.ne_of_lt hz3) _,.inl ⟨HD.o,((HS2.o.other (by omega) (by omega) _).other (by omega) (by omega) _).other (by omega) (by omega) _⟩⟩
   | some p2 =>
    obtain ⟨x,y⟩:=p2;have hxy:=UL2 x y hu2;rw [hu2] at hp HD;obtain ⟨rfl,hs2⟩:=hp;have HS2:=Zz (HS1.o.trans hs2);have HU3:=Zz (HT3.o.grown hs2.grown hn3);have HU2:=Zz (HT2.o.grown hs2.grown hn2);obtain ⟨k0,k1,k2,l0,l1,l2⟩:=HU3.o;simp only [Nat.zero_add] at k1 k2 l1 l2;clear hc0 hf0;clear hs2 hu2 UL2;go_wp2;go_meet;refine Zz ⟨⟨1,x,[]⟩,⟨by simp,by simp;omega,by simp⟩,HU3.o.set ⟨1,x,[]⟩,((HU2.o.other (Nat.ne_of_lt hz3) _).other (Nat.ne_of_lt hz3) _).other (Nat.ne_of_lt hz3) _,.inr ⟨y,((HS2.o.other (by omega) (by omega) _).other (by omega) (by omega) _).other (by omega) (by omega) _,.inl HD.o⟩⟩
  | false =>
   have HD:=Zz (HR.o.trans (if_neg (by rw [c1];decide)));have C1:=Zz c1;clear c1 HR;go_wp2_with fail;refine (has_calls rb s [95,58] false (by decide) _ HS0.o.at').mono ?_;rintro e w2 ⟨rfl,rfl⟩;cases c2:([95,58]:List UInt8).isPrefixOf s with
   | true =>
    replace HD:=Zz (HD.o.trans (if_pos c2))
    have hl1:=prefix_len _ _ c2;have hx:=drop2 s;have hi1:(2:Int) <= (s.length:Int):=by simp at hl1;omega
    obtain ⟨q,hq⟩:∃ q,s.drop 2 = q:=⟨_,rfl⟩;have hql:q.length <= s.length:=by rw [<- hq];simp
    rw [hq] at HD hx;clear c2 hq;have HS1:=Zz (((HSr.o.set0 (t:=q) (by omega)).alloc (.cells #[.int .i64 0,.string (mkS []),.string (mkS [])] 24)).alloc (.cells #[.int .i64 0,.string (mkS []),.string (mkS [])] 24));have HT3:=Zz (HT.o (w.setCell ⟨rb,0,none⟩ (.string (mkS q))) (World.size_setCell _ _ _)).2;have HT2:=Zz (HT.o (w.setCell ⟨rb,0,none⟩ (.string (mkS q))) (World.size_setCell _ _ _)).1;go_wp2_with fail;refine (run_calls rb q false false _ HS1.o.at').mono ?_;rintro e w2 ⟨rfl,hs2⟩;obtain ⟨hc0,hf0⟩:True/\True:=⟨trivial,trivial⟩;have HS2:=Zz (HS1.o.trans hs2);have HU3:=Zz (HT3.o.grown hs2.grown hn3);have HU2:=Zz (HT2.o.grown hs2.grown hn2);obtain ⟨k0,k1,k2,l0,l1,l2⟩:=HU3.o;simp only [Nat.zero_add] at k1 k2 l1 l2;clear hc0 hf0;have hr1:=run_fst_len false q;generalize run false q = pr at *;obtain ⟨ru,rq⟩:=pr;dsimp only at *;clear hs2;go_wp2;go_meet;refine Zz ⟨⟨2,ru,[]⟩,⟨by simp,by simp;omega,by simp⟩,HU3.o.set ⟨2,ru,[]⟩,((HU2.o.other (Nat.ne_of_lt hz3) _).other (Nat.ne_of_lt hz3) _).other (Nat.ne_of_lt hz3) _,.inr ⟨rq,((HS2.o.other (by omega) (by omega) _).other (by omega) (by omega) _).other (by omega) (by omega) _,.inl HD.o⟩⟩
   | false =>
    replace HD:=Zz (HD.o.trans (if_neg (by rw [c2];decide)))
    have C2:=Zz c2;clear c2;go_wp2_with fail;refine (has_calls rb s [34] false (by decide) _ HS0.o.at').mono ?_;rintro e w2 ⟨rfl,rfl⟩;cases c3:([34]:List UInt8).isPrefixOf s with
    | true =>
     replace HD:=Zz (HD.o.trans (if_pos c3))
     have hl1:=prefix_len _ _ c3;have hx:=drop1 s;have hi1:(1:Int) <= (s.length:Int):=by simp at hl1;omega
     obtain ⟨q,hq⟩:∃ q,s.drop 1 = q:=⟨_,rfl⟩;have hql:q.length <= s.length:=by rw [<- hq];simp
     rw [hq] at HD hx;clear c3 hq;have HS1:=Zz (((HSr.o.set0 (t:=q) (by omega)).alloc (.cells #[.int .i64 0,.string (mkS []),.string (mkS [])] 24)).alloc (.cells #[.int .i64 0,.string (mkS []),.string (mkS [])] 24));have HT3:=Zz (HT.o (w.setCell ⟨rb,0,none⟩ (.string (mkS q))) (World.size_setCell _ _ _)).2;have HT2:=Zz (HT.o (w.setCell ⟨rb,0,none⟩ (.string (mkS q))) (World.size_setCell _ _ _)).1;go_wp2_with fail;refine (literal_calls rb q _ HS1.o.at').mono ?_;intro e w2 hp;obtain ⟨hc0,hf0⟩:True/\True:=⟨trivial,trivial⟩;cases hu2:literal true q with
     | none =>
      rw [hu2] at hp HD;obtain ⟨⟨⟨tk,tx,te⟩,rfl,hft⟩,hs2⟩:=hp;unfold termV;have HS2:=Zz (HS1.o.trans hs2);have HU3:=Zz (HT3.o.grown hs2.grown hn3);have HU2:=Zz (HT2.o.grown hs2.grown hn2);obtain ⟨k0,k1,k2,l0,l1,l2⟩:=HU3.o;simp only [Nat.zero_add] at k1 k2 l1 l2;clear hc0 hf0;have HFt:=Zz hft;clear hs2 hu2 hft;go_wp2;go_meet;refine Zz ⟨⟨tk,tx,te⟩,HFt.o,HU3.o.set ⟨tk,tx,te⟩,((HU2.o.other (Nat.ne_of_lt hz3) _).other (Nat.ne_of_lt hz3) _).other (Nat.ne_of_lt hz3) _,.inl ⟨HD.o,((HS2.o.other (by omega) (by omega) _).other (by omega) (by omega) _).other (by omega) (by omega) _⟩⟩
     | some p2 =>
      obtain ⟨⟨tk,tx,te⟩,y⟩:=p2;rw [hu2] at hp HD;obtain ⟨⟨rfl,hft⟩,hs2⟩:=hp;unfold termV;have HS2:=Zz (HS1.o.trans hs2);have HU3:=Zz (HT3.o.grown hs2.grown hn3);have HU2:=Zz (HT2.o.grown hs2.grown hn2);obtain ⟨k0,k1,k2,l0,l1,l2⟩:=HU3.o;simp only [Nat.zero_add] at k1 k2 l1 l2;clear hc0 hf0;have HFt:=Zz hft;clear hs2 hu2 hft;go_wp2;go_meet;refine Zz ⟨⟨tk,tx,te⟩,HFt.o,HU3.o.set ⟨tk,tx,te⟩,((HU2.o.other (Nat.ne_of_lt hz3) _).other (Nat.ne_of_lt hz3) _).other (Nat.ne_of_lt hz3) _,.inr ⟨y,((HS2.o.other (by omega) (by omega) _).other (by omega) (by omega) _).other (by omega) (by omega) _,.inl HD.o⟩⟩
    | false =>
     replace HD:=Zz (HD.o.trans (if_neg (by rw [c3];decide)))
     clear c3;go_wp2;go_meet;exact Zz ⟨zeroT,⟨by decide,by decide,by decide⟩,T3.o,T2.o,.inr ⟨s,HS0.o,.inr ⟨HD.o,rfl⟩⟩⟩
 case rest =>
  obtain ⟨⟨tk,tx,te⟩,hft,h3,h2,hcase⟩:=hcut.o;have hz2:=h3.lt;have hz1:w.heap.size < wc.heap.size:=by omega
  have HT3:=Zz h3;have HT2:=Zz h2;have HFt:=Zz hft;clear hcut hft HR T2 T3 HS0 h2 h3 HT HSr;rcases hcase with ⟨hd,hs⟩ | ⟨q,hs,hd⟩
  ·
   have HD:=Zz (show term true s = none by rw [term,hd]);have HS:=Zz hs;obtain ⟨a0,a1,b0,b1,_⟩:=hs.at';clear hd hs;obtain ⟨k0,k1,k2,l0,l1,l2⟩:=HT3.o;obtain ⟨m0,m1,m2,n0,n1,n2⟩:=HT2.o;simp only [Nat.zero_add] at k1 k2 l1 l2 m1 m2 n1 n2;dsimp only [zeroT] at *;go_wp2_with fail;refine (blanks_calls rb [] true _ HS.o.at').mono ?_;rintro e w4 ⟨rfl,hs4⟩;have HS4:=Zz (HS.o.trans hs4);have HV3:=Zz (HT3.o.grown hs4.grown hn3);have HV2:=Zz (HT2.o.grown hs4.grown hn2);obtain ⟨k0,k1,k2,l0,l1,l2⟩:=HV3.o;obtain ⟨m0,m1,m2,n0,n1,n2⟩:=HV2.o;simp only [Nat.zero_add] at k1 k2 l1 l2 m1 m2 n1 n2;dsimp only [zeroT] at *;clear hs4;go_wp2;refine bodyPost_ret (v:=termV ⟨tk,tx,te⟩) (by simp [results,Tryz.results148,go_sem,hn2,hn3,m0,m1,m2,termV,mkS_nil]) rfl ?_;rw [show (term true s) = none from HD.o];exact ⟨⟨_,rfl,HFt.o⟩,((HS4.o.other (by omega) (by omega) _).other (by omega) (by omega) _).other (by omega) (by omega) _⟩
  ·
   have HS:=Zz hs;have hql:=hs.at'.len;have HD:Hid (term true s = if is ⟨tk,tx,te⟩ = true then some (⟨tk,tx,te⟩,q) else none):=Zz (by
    rcases hd with hd | ⟨hd,hi⟩
    ·
     rw [term,hd]
    ·
     rw [term,hd,hi];rfl)
   obtain ⟨a0,a1,b0,b1,_⟩:=hs.at';have HE1:=Zz (HE.o.grown hs.grown hrb);clear hd hs;obtain ⟨k0,k1,k2,l0,l1,l2⟩:=HT3.o;obtain ⟨m0,m1,m2,n0,n1,n2⟩:=HT2.o;simp only [Nat.zero_add] at k1 k2 l1 l2 m1 m2 n1 n2;dsimp only [zeroT] at *;go_wp2_with fail;refine (is4_calls ⟨tk,tx,te⟩ HFt.o _ HE1.o).mono ?_;rintro e w3 ⟨rfl,hb3⟩;have HS3:=Zz (HS.o.below hb3);have HU3:=Zz (HT3.o.below hb3);have HU2:=Zz (HT2.o.below hb3);clear hb3 k0 k1 k2 l0 l1 l2 m0 m1 m2 n0 n1 n2 a0 a1 b0 b1;obtain ⟨a0,a1,b0,b1,_⟩:=HS3.o.at';obtain ⟨k0,k1,k2,l0,l1,l2⟩:=HU3.o;obtain ⟨m0,m1,m2,n0,n1,n2⟩:=HU2.o;simp only [Nat.zero_add] at k1 k2 l1 l2 m1 m2 n1 n2;dsimp only [zeroT] at *;cases hi:is ⟨tk,tx,te⟩ with
   | true =>
    have HD1:=Zz (HD.o.trans (if_pos hi));clear hi HD;clear k0 k1 k2 l0 l1 l2 m0 m1 m2 n0 n1 n2;go_wp2_with fail;refine (blanks_calls rb q false _ HS3.o.at').mono ?_;rintro e w4 ⟨rfl,hs4⟩;have HS4:=Zz (HS3.o.trans hs4);have HV3:=Zz (HU3.o.grown hs4.grown hn3);have HV2:=Zz (HU2.o.grown hs4.grown hn2);obtain ⟨k0,k1,k2,l0,l1,l2⟩:=HV3.o;obtain ⟨m0,m1,m2,n0,n1,n2⟩:=HV2.o;simp only [Nat.zero_add] at k1 k2 l1 l2 m1 m2 n1 n2;dsimp only [zeroT] at *;clear hs4;go_wp2;refine bodyPost_ret (v:=termV ⟨tk,tx,te⟩) (by simp [results,Tryz.results148,go_sem,hn2,hn3,m0,m1,m2,termV,mkS_nil]) rfl ?_;rw [show (term true s) = some (⟨tk,tx,te⟩,q) from HD1.o];exact ⟨⟨rfl,HFt.o⟩,((HS4.o.other (by omega) (by omega) _).other (by omega) (by omega) _).other (by omega) (by omega) _⟩
   | false =>
    have HD1:=Zz (HD.o.trans (if_neg (by rw [hi];decide)));clear hi HD;go_wp2_with fail;refine (fail_calls rb q false _ HS3.o.at').mono ?_;rintro e w5 ⟨rfl,hs5⟩;have HS5:=Zz (HS3.o.trans hs5);have HX3:=Zz (HU3.o.grown hs5.grown hn3);have HX2:=Zz (HU2.o.grown hs5.grown hn2);clear hs5 k0 k1 k2 l0 l1 l2 m0 m1 m2 n0 n1 n2;go_wp2_with fail;refine (blanks_calls rb [] true _ HS5.o.at').mono ?_;rintro e w4 ⟨rfl,hs4⟩;have HS4:=Zz (HS5.o.trans hs4);have HV3:=Zz (HX3.o.grown hs4.grown hn3);have HV2:=Zz (HX2.o.grown hs4.grown hn2);obtain ⟨k0,k1,k2,l0,l1,l2⟩:=HV3.o;obtain ⟨m0,m1,m2,n0,n1,n2⟩:=HV2.o;simp only [Nat.zero_add] at k1 k2 l1 l2 m1 m2 n1 n2;dsimp only [zeroT] at *;clear hs4;go_wp2;refine bodyPost_ret (v:=termV ⟨tk,tx,te⟩) (by simp [results,Tryz.results148,go_sem,hn2,hn3,m0,m1,m2,termV,mkS_nil]) rfl ?_;rw [show (term true s) = none from HD1.o];exact ⟨⟨_,rfl,HFt.o⟩,((HS4.o.other (by omega) (by omega) _).other (by omega) (by omega) _).other (by omega) (by omega) _⟩
theorem term_bad_calls (rb:Nat) (w:World) (h:At w rb [] true) :
  Calls Tryz.prog 148 #[.pointer (some ⟨rb,0,none⟩)] w fun e w'=>TermPost w rb none e w':=by
 have hlt:=h.lt;have HT:=Zz (two_zero (w:=w) w rfl);have HS0:=Zz (((Step.refl h).alloc (.cells #[.int .i64 0,.string (mkS []),.string (mkS [])] 24)).alloc (.cells #[.int .i64 0,.string (mkS []),.string (mkS [])] 24));have hn2:¬ w.heap.size = rb:=by omega
 have hn3:¬ w.heap.size + 1 = rb:=by omega
 obtain ⟨a0,a1,b0,b1,_⟩:=h;go_enter func148,ntmps148;go_wp2_with fail;refine (has_calls rb [] [60] true (by decide) _ HS0.o.at').mono ?_;rintro e w2 ⟨rfl,rfl⟩;rw [show ([60]:List UInt8).isPrefixOf [] = false from rfl];go_wp2_with fail;refine (has_calls rb [] [95,58] true (by decide) _ HS0.o.at').mono ?_;rintro e w2 ⟨rfl,rfl⟩;rw [show ([95,58]:List UInt8).isPrefixOf [] = false from rfl];go_wp2_with fail;refine (has_calls rb [] [34] true (by decide) _ HS0.o.at').mono ?_;rintro e w2 ⟨rfl,rfl⟩;rw [show ([34]:List UInt8).isPrefixOf [] = false from rfl];go_wp2_with fail;refine (blanks_calls rb [] true _ HS0.o.at').mono ?_;rintro e w4 ⟨rfl,hs4⟩;have HS4:=Zz (HS0.o.trans hs4);obtain ⟨k0,k1,k2,l0,l1,l2⟩:=HT.o.2.grown hs4.grown hn3;obtain ⟨m0,m1,m2,n0,n1,n2⟩:=HT.o.1.grown hs4.grown hn2;simp only [Nat.zero_add] at k1 k2 l1 l2 m1 m2 n1 n2;dsimp only [zeroT] at *;clear hs4;go_wp2;refine bodyPost_ret (v:=termV zeroT) (by simp [results,Tryz.results148,go_sem,hn2,hn3,m0,m1,m2,termV,mkS_nil,zeroT]) rfl ?_;exact ⟨⟨zeroT,rfl,by decide,by decide,by decide⟩,((HS4.o.other (by omega) (by omega) _).other (by omega) (by omega) _).other (by omega) (by omega) _⟩
end Ref5
namespace Ref5
open Go.RowKit Go.Lib B Rd Utf TermPure LinesPure Tx Env Tc
def AtO (w:World) (rb:Nat) (st:Option (List UInt8)):Prop:=At w rb (st.getD []) st.isNone
def StepO (w w':World) (rb:Nat) (st:Option (List UInt8)):Prop:=Step w w' rb (st.getD []) st.isNone
def Next (ref:Bool) (st:Option (List UInt8)) (t:Term) (st':Option (List UInt8)):Prop:=match st with
 | none=>st' = none
 | some s=>match term ref s with
  | none=>st' = none
  | some (t0,q)=>t = t0/\st' = some (blanks q)
theorem term_any_calls (rb:Nat) (st:Option (List UInt8)) (w:World) (he:Env w) (hrb:lowB <= rb) (h:AtO w rb st) :
  Calls Tryz.prog 148 #[.pointer (some ⟨rb,0,none⟩)] w fun e w'=>∃ t st',(e = .returned (termV t)/\Fits t)/\StepO w w' rb st'/\Next true st t st':=by
 cases st with
 | none =>
  refine (term_bad_calls rb w h).mono ?_;rintro e w' ⟨⟨t,h1,h2⟩,h3⟩;exact ⟨t,none,⟨h1,h2⟩,h3,rfl⟩
 | some s =>
  refine (term_calls rb s w he hrb h).mono ?_;intro e w' hp;unfold Next;dsimp only;cases ht:term true s with
  | none =>
   rw [ht] at hp;obtain ⟨⟨t,h1,h2⟩,h3⟩:=hp;exact ⟨t,none,⟨h1,h2⟩,h3,rfl⟩
  | some p =>
   obtain ⟨t,q⟩:=p;rw [ht] at hp;obtain ⟨⟨h1,h2⟩,h3⟩:=hp;exact ⟨t,some (blanks q),⟨h1,h2⟩,h3,rfl,rfl⟩
def lineEnd (t:Triple) (st:Option (List UInt8)):Option (Option Triple):=match st with
 | none=>none
 | some r=>if [46].isPrefixOf r = true/\over (blanks (r.drop 1)) = true/\isTriple t = true then some (some t) else none
theorem one_by (ref:Bool) (s:List UInt8) (hv:validD s = true) (ho:over (blanks s) = false) {a p o:Term} {s1 s2 s3:Option (List UInt8)} (h1:Next ref (some (blanks s)) a s1) (h2:Next ref s1 p s2) (h3:Next ref s2 o s3) :
  lineOf ref s = lineEnd ⟨a,p,o⟩ s3:=by
 rw [lineOf,hv,ho];simp only [Bool.true_eq_false,Bool.false_eq_true,if_false];unfold Next at h1;dsimp only at h1;cases t1:term ref (blanks s) with
 | none =>
  rw [t1] at h1;dsimp only at h1;subst h1;have:s2 = none:=h2;subst this;have:s3 = none:=h3;subst this;rfl
 | some q1 =>
  obtain ⟨a',r1⟩:=q1;rw [t1] at h1;obtain ⟨rfl,rfl⟩:=h1;unfold Next at h2;dsimp only at h2 |-;cases t2:term ref (blanks r1) with
  | none =>
   rw [t2] at h2;dsimp only at h2;subst h2;have:s3 = none:=h3;subst this;rfl
  | some q2 =>
   obtain ⟨p',r2⟩:=q2;rw [t2] at h2;obtain ⟨rfl,rfl⟩:=h2;unfold Next at h3;dsimp only at h3 |-;cases t3:term ref (blanks r2) with
   | none =>
    rw [t3] at h3;dsimp only at h3;subst h3;rfl
   | some q3 =>
    obtain ⟨o',r3⟩:=q3;rw [t3] at h3;obtain ⟨rfl,rfl⟩:=h3;rfl
structure T9 (W:World) (g:Nat) (t:Triple):Prop where
 s:TC W g 0 t.s
 p:TC W g 3 t.p
 o:TC W g 6 t.o
def zeroTr:Triple:=⟨zeroT,zeroT,zeroT⟩
def oneV (r:Option (Option Triple)):Value:=match r with
 | none=>.tuple #[tripleV zeroTr,.bool false,.bool false]
 | some none=>.tuple #[tripleV zeroTr,.bool false,.bool true]
 | some (some t)=>.tuple #[tripleV t,.bool true,.bool true]
def FitsO (r:Option (Option Triple)):Prop:=∀ t,r = some (some t) -> FitsT t
theorem T9.other {W:World} {g g' j:Nat} {t:Triple} (h:T9 W g t) (hne:¬ g = g') (u:Value):T9 (W.setCell ⟨g',j,none⟩ u) g t:=⟨h.s.other hne u,h.p.other hne u,h.o.other hne u⟩
theorem T9.below {W W1:World} {g:Nat} {t:Triple} (h:T9 W g t) (hb:Below W.heap.size W W1):T9 W1 g t:=⟨h.s.below hb,h.p.below hb,h.o.below hb⟩
theorem T9.grown {W W1:World} {g rb:Nat} {t:Triple} (h:T9 W g t) (hg:W.grownBy W1 (some rb)) (hne:¬ g = rb):T9 W1 g t:=⟨h.s.grown hg hne,h.p.grown hg hne,h.o.grown hg hne⟩
theorem T9.alloc {W:World} {g:Nat} {t:Triple} (h:T9 W g t) (x:Obj):T9 (W.alloc x) g t:=⟨h.s.alloc x,h.p.alloc x,h.o.alloc x⟩
theorem T9.new (w:World) (t:Triple):T9 (w.alloc (.cells #[.int .i64 t.s.kind,.string (mkS t.s.text),.string (mkS t.s.extra),.int .i64 t.p.kind,.string (mkS t.p.text),.string (mkS t.p.extra),.int .i64 t.o.kind,.string (mkS t.o.text),.string (mkS t.o.extra)] 36)) w.heap.size t:=by
 constructor <;> constructor
 all_goals first | (unfold World.cell?;dsimp only;rw [Kd.heap_new];rfl) | (unfold World.frozen?;dsimp only;rw [Kd.heap_new];rfl)
theorem T9.setP {W:World} {g:Nat} {a p0 o0:Term} (h:T9 W g ⟨a,p0,o0⟩) (p:Term):T9 (((W.setCell ⟨g,3,none⟩ (.int .i64 p.kind)).setCell ⟨g,4,none⟩ (.string (mkS p.text))).setCell ⟨g,5,none⟩ (.string (mkS p.extra))) g ⟨a,p,o0⟩:=
 ⟨((h.s.apart (by decide) (by decide) (by decide) _).apart (by decide) (by decide) (by decide) _).apart (by decide) (by decide) (by decide) _,h.p.set p,
  ((h.o.apart (by decide) (by decide) (by decide) _).apart (by decide) (by decide) (by decide) _).apart (by decide) (by decide) (by decide) _⟩
theorem T9.setO {W:World} {g:Nat} {a p0 o0:Term} (h:T9 W g ⟨a,p0,o0⟩) (o:Term):T9 (((W.setCell ⟨g,6,none⟩ (.int .i64 o.kind)).setCell ⟨g,7,none⟩ (.string (mkS o.text))).setCell ⟨g,8,none⟩ (.string (mkS o.extra))) g ⟨a,p0,o⟩:=
 ⟨((h.s.apart (by decide) (by decide) (by decide) _).apart (by decide) (by decide) (by decide) _).apart (by decide) (by decide) (by decide) _,
  ((h.p.apart (by decide) (by decide) (by decide) _).apart (by decide) (by decide) (by decide) _).apart (by decide) (by decide) (by decide) _,h.o.set o⟩
theorem At.new (w:World) (s:List UInt8) (bad:Bool) (T:TypeId) (hs:s.length <= 70368744177664):At (w.alloc (.cells #[.string (mkS s),.bool bad] T)) w.heap.size s bad:=by
 refine ⟨?_,?_,?_,?_,hs⟩
 all_goals first | (unfold World.cell?;dsimp only;rw [Kd.heap_new];rfl) | (unfold World.frozen?;dsimp only;rw [Kd.heap_new];rfl)
end Ref5
namespace Tri
open Go.RowKit Go.ChangeShapes Go.WideShapes Go.Deep B TermPure LinesPure Ref5
def termL (t:Term):List Value:=[.int .i64 t.kind,.string (mkS t.text),.string (mkS t.extra)]
def triL (t:Triple):List Value:=[.int .i64 t.s.kind,.string (mkS t.s.text),.string (mkS t.s.extra),.int .i64 t.p.kind,.string (mkS t.p.text),.string (mkS t.p.extra),.int .i64 t.o.kind,.string (mkS t.o.text),.string (mkS t.o.extra)]
theorem triL_eq (t:Triple):triL t = termL t.s ++ (termL t.p ++ termL t.o):=rfl
def FitsW (t:Term):Prop:=(-9223372036854775808 <= t.kind/\t.kind <= 9223372036854775807)/\t.text.length <= 140737488355328/\t.extra.length <= 140737488355328
def FitsW3 (t:Triple):Prop:=FitsW t.s/\FitsW t.p/\FitsW t.o
def termK:Kd Term:=held 3 (by decide) termL FitsW (fun _=>rfl) (fun t u hu=>by
 simp [termL] at hu
 rcases hu with rfl | rfl | rfl <;> rfl)
def triK:Kd Triple:=held 9 (by decide) triL FitsW3 (fun _=>rfl) (fun t u hu=>by
 simp [triL] at hu
 rcases hu with rfl | rfl | rfl | rfl | rfl | rfl | rfl | rfl | rfl <;> rfl)
section
variable {P : Program} {t : TypeId}
end
end Tri
namespace TriEq
open Go.RowKit B Rd TermPure LinesPure Ref5
theorem eq_term (x y:Term) (d:Nat) (w:World):(Op.equalIn (d + 2) 24 (termV x) (termV y)).run Tryz.prog w = .ok (decide (x = y)) w:=by
 have hS:Tryz.prog.underlying 24 = some (.struct (Tryz.prog.fieldsOf 24)):=by kernel_rfl
 have hp:Tryz.prog.stoodInHeld 24 = false:=by kernel_rfl
 have u3:=underlying3;have u9:=underlying9;have a3:=isAgg3;have z3:=sizeOf3;have a9:=isAgg9;have z9:=sizeOf9;obtain ⟨xk,xt,xe⟩:=x;obtain ⟨yk,yt,ye⟩:=y;unfold termV;rw [run_equalIn_struct w (d + 1) 24 _ _ hS hp];simp only [Program.fieldsOf,underlying24];go_simp;simp only [mkS_toList];by_cases h1:xk = yk <;> by_cases h2:xt = yt <;> by_cases h3:xe = ye <;> simp [h1,h2,h3]
theorem eq_term' (x y:Term) (d:Nat) (w:World):(Op.equalIn (d + 2) 24 (.agg #[.int .i64 x.kind,.string (mkS x.text),.string (mkS x.extra)]) (.agg #[.int .i64 y.kind,.string (mkS y.text),.string (mkS y.extra)])).run Tryz.prog w = .ok (decide (x = y)) w:=eq_term x y d w
theorem run_eq_term (x y:Term) (w:World):(binOp .eql 24 (.agg #[.int .i64 x.kind,.string (mkS x.text),.string (mkS x.extra)]) (.agg #[.int .i64 y.kind,.string (mkS y.text),.string (mkS y.extra)])).run Tryz.prog w = .ok (.bool (decide (x = y))) w:=by
 rw [run_eql_struct,show (10000:Nat) = 9998 + 2 from rfl,eq_term']
 try rfl
theorem run_eq_tri (x y:Triple) (w:World):(binOp .eql 36 (tripleV x) (tripleV y)).run Tryz.prog w = .ok (.bool (decide (x = y))) w:=by
 have hS:Tryz.prog.underlying 36 = some (.struct (Tryz.prog.fieldsOf 36)):=by kernel_rfl
 have hp:Tryz.prog.stoodInHeld 36 = false:=by kernel_rfl
 have a23:=isAgg24;have z23:=sizeOf24;have e:=fun (x y:Term) w=>eq_term' x y 9997 w
 unfold tripleV;rw [run_eql_struct,show (10000:Nat) = 9999 + 1 from rfl,run_equalIn_agg w 9999 36 _ _ hS hp];simp only [Program.fieldsOf,underlying36];go_simp;obtain ⟨a,b,c⟩:=x;obtain ⟨a',b',c'⟩:=y;by_cases h1:a = a' <;> by_cases h2:b = b' <;> by_cases h3:c = c' <;> simp [h1,h2,h3]
end TriEq
namespace Show
open Go.RowKit Go.Lib B Rd Utf TermPure Tx Env Bld
theorem hexD_all:∀ k:Fin 16,([48,49,50,51,52,53,54,55,56,57,65,66,67,68,69,70]:List UInt8).getD k.val 0 = hexD k.val:=by decide
theorem hexS (k:Nat) (hk:k < 16):(⟨#[48,49,50,51,52,53,54,55,56,57,65,66,67,68,69,70]⟩:ByteArray).extract k (k + 1) = mkS [hexD k]:=by
 have h:=mkS_extract [48,49,50,51,52,53,54,55,56,57,65,66,67,68,69,70] k (k + 1);rw [show k + 1 - k = 1 from by omega] at h;refine Eq.trans h ?_;congr 1;have hl:k < ([48,49,50,51,52,53,54,55,56,57,65,66,67,68,69,70]:List UInt8).length:=hk;have hd:=hexD_all ⟨k,hk⟩;rw [List.getD_eq_getElem?_getD,Zg hl] at hd;rw [List.drop_eq_getElem_cons hl,List.take_succ_cons,List.take_zero];exact congrArg (fun x=>[x]) hd
theorem escaped_hex (n:Nat) (hn:n < 32 \/ n = 127) (h8:n ≠ 8) (h9:n ≠ 9) (h10:n ≠ 10) (h12:n ≠ 12) (h13:n ≠ 13) (w:World) :
  Calls Tryz.prog 140 #[.int .u8 (n:Int)] w fun e w'=>e = .returned (.string (mkS [92,117,48,48,hexD (n / 16),hexD (n % 16)]))/\Below w.heap.size w w':=by
 have e1:((n:Int) == 34) = false:=by rw [Zb];omega
 have e2:((n:Int) == 92) = false:=by rw [Zb];omega
 have e3:((n:Int) == 10) = false:=by rw [Zb];omega
 have e4:((n:Int) == 13) = false:=by rw [Zb];omega
 have e5:((n:Int) == 9) = false:=by rw [Zb];omega
 have e6:((n:Int) == 8) = false:=by rw [Zb];omega
 have e7:((n:Int) == 12) = false:=by rw [Zb];omega
 have i0:(0:Int) <= (n:Int):=by omega
 have i1:(n:Int) <= 127:=by omega
 have H1:=Zz (hexS (n / 16) (by omega));have H2:=Zz (hexS (n % 16) (by omega));go_enter func140,ntmps140;go_wp2;go_quiet (fail);go_wp2;go_ret;exact ⟨(ret_str (by rw [H1.o,H2.o];rfl):Ending.returned (.string ((⟨#[92,117,48,48]⟩:ByteArray) ++ (⟨#[48,49,50,51,52,53,54,55,56,57,65,66,67,68,69,70]⟩:ByteArray).extract (n / 16) (n / 16 + 1) ++ (⟨#[48,49,50,51,52,53,54,55,56,57,65,66,67,68,69,70]⟩:ByteArray).extract (n % 16) (n % 16 + 1))) = .returned (.string (mkS [92,117,48,48,hexD (n / 16),hexD (n % 16)]))),bel_drewN (bR _ _) _⟩
def short (n:Nat):UInt8:=if n = 10 then 110 else if n = 13 then 114 else if n = 9 then 116 else if n = 8 then 98 else 102
theorem escaped_short (n:Nat) (h:n = 8 \/ n = 9 \/ n = 10 \/ n = 12 \/ n = 13) (w:World) :
  Calls Tryz.prog 140 #[.int .u8 (n:Int)] w fun e w'=>e = .returned (.string (mkS [92,short n]))/\Below w.heap.size w w':=by
 rcases h with rfl | rfl | rfl | rfl | rfl
 all_goals
  go_enter func140,ntmps140;go_wp2;go_ret;exact ⟨rfl,bR _ _⟩
theorem escaped_sign (n:Nat) (h:n = 34 \/ n = 92) (w:World) :
  Calls Tryz.prog 140 #[.int .u8 (n:Int)] w fun e w'=>e = .returned (.string (mkS [92,UInt8.ofNat n]))/\Below w.heap.size w w':=by
 rcases h with rfl | rfl
 all_goals
  go_enter func140,ntmps140;go_wp2;go_ret;exact ⟨rfl,bR _ _⟩
end Show
namespace Bw
open Go.RowKit Go.Lib B Rd Env Bld
def Bw (B b:Nat) (out:List UInt8) (w:World):Prop:=
 b < B/\∃ p v,(p = .pointer none \/ p = .pointer (some ⟨b,0,none⟩))/\w.heap[b]? = some (.cells #[p,v] 161 (0,0))/\w.ownsRowF B 5 1 v out.length (Lib.byteCells out)
structure Keeps (B b:Nat) (w w':World):Prop where
 os:w'.os = w.os
 tape:w'.tape = w.tape
 output:w'.output = w.output
 size:w.heap.size <= w'.heap.size
 block:∀ k,k < B -> k ≠ b -> w'.heap[k]? = w.heap[k]?
theorem Keeps.trans {B b:Nat} {x y z:World} (h:Keeps B b x y) (k:Keeps B b y z):Keeps B b x z:=
 ⟨k.os.trans h.os,k.tape.trans h.tape,k.output.trans h.output,Zh h.size k.size,fun i hi hne=>(k.block i hi hne).trans (h.block i hi hne)⟩
theorem Keeps.refl (B b:Nat) (w:World):Keeps B b w w:=⟨rfl,rfl,rfl,lR _,fun _ _ _=>rfl⟩
theorem Keeps.below {B b:Nat} {w0 w w':World} (h:Keeps B b w w') (hb:Below w0.heap.size w0 w) (h1:w0.heap.size <= b) (h2:w0.heap.size <= B):Below w0.heap.size w0 w':=
 ⟨h.os.trans hb.os,h.tape.trans hb.tape,h.output.trans hb.output,Zh hb.size h.size,fun k hk=>(h.block k (Nat.lt_of_lt_of_le hk h2) (by omega)).trans (hb.block k hk)⟩
theorem Keeps.set (B:Nat) (w:World) (b j:Nat) (u:Value):Keeps B b w (w.setCell ⟨b,j,none⟩ u):=
 ⟨rfl,rfl,rfl,by rw [World.size_setCell];exact lR _,fun k _ hne=>by
  simp [World.setCell,Array.getElem?_modify]
  intro e
  exact absurd e.symm hne⟩
theorem Keeps.alloc {B b:Nat} (w:World) (o:Obj) (hB:B <= w.heap.size):Keeps B b w (w.alloc o):=
 ⟨rfl,rfl,rfl,by simp,fun k hk _=>Lib.alloc_old w o k (by omega)⟩
theorem lt_of {w:World} {k:Nat} {o:Obj} (h:w.heap[k]? = some o):k < w.heap.size:=(Array.getElem?_eq_some_iff.1 h).1
theorem heap_set {w:World} {b j:Nat} {C:Array Value} {T:TypeId} {fz:Nat × Nat} (h:w.heap[b]? = some (.cells C T fz)) (u:Value):(w.setCell ⟨b,j,none⟩ u).heap[b]? = some (.cells (C.setIfInBounds j u) T fz):=by
 have hlt:=lt_of h;simp [World.setCell,Array.getElem?_modify,h]
theorem Bw.new {w:World} {b B:Nat} (hb:b < B) (h:w.heap[b]? = some (.cells #[.pointer none,.slice none 0 0] 161 (0,0))):Bw B b [] w:=
 ⟨hb,_,_,.inl rfl,h,World.ownsRowF_nil _ _ _ _⟩
theorem Bw.kept {B b:Nat} {out:List UInt8} {w w':World} (h:Bw B b out w) (hm:∀ k,k < w.heap.size -> w'.heap[k]? = w.heap[k]?):Bw B b out w':=by
 obtain ⟨hb,p,v,hp,hh,hown⟩:=h;refine ⟨hb,p,v,hp,(hm b (lt_of hh)).trans hh,hown.1,?_⟩;rcases hown.2 with hn | ⟨g,cap,cur,fz,hv,hbg,hg,rest⟩
 ·
  exact .inl hn
 ·
  exact .inr ⟨g,cap,cur,fz,hv,hbg,(hm g (lt_of hg)).trans hg,rest⟩
theorem Bw.toBld {B b:Nat} {out:List UInt8} {w:World} (h:Bw B b out w):Bld b b out w:=by
 obtain ⟨hb,p,v,hp,hh,hown⟩:=h;have key:Lib.BuilderAtF 161 5 b b p (Lib.byteCells out) w:=by
  refine ⟨lR _,v,hh,?_,?_⟩
  ·
   rw [byteCells_len];refine ⟨hown.1,?_⟩;rcases hown.2 with hn | ⟨g,cap,cur,fz,hv,hbg,rest⟩
   ·
    exact .inl hn
   ·
    exact .inr ⟨g,cap,cur,fz,hv,by omega,rest⟩
  ·
   intro e;have:=(hown.lt b e).1;omega
 rcases hp with rfl | rfl
 ·
  exact .inl key
 ·
  exact .inr key
theorem Keeps.cell {B b:Nat} {w w':World} (h:Keeps B b w w') {g i:Nat} (hg:g < B) (hne:g ≠ b):w'.cell? ⟨g,i,none⟩ = w.cell? ⟨g,i,none⟩:=
 World.cell?_of_block (a:=⟨g,i,none⟩) (h.block g hg hne)
theorem check_calls (B b:Nat) (out:List UInt8) (w:World) (h:Bw B b out w) :
  Calls Tryz.prog 145 #[.pointer (some ⟨b,0,none⟩)] w fun e w'=>e = .returned (.tuple #[])/\Bw B b out w'/\Keeps B b w w'/\w'.heap.size = w.heap.size:=by
 obtain ⟨hb,p,v,hp,hh,hown⟩:=h;have c0:w.cell? ⟨b,0,none⟩ = some p:=by rw [Lib.cell_of_heap hh];rfl
 rcases hp with rfl | rfl
 ·
  refine (Any.Builder_copyCheck_fresh SB.lays240 Tryz.Builder_Extra_159.toX72 b w c0 ?_ (Lib.frozen_of_heap hh 0)).mono ?_
  ·
   unfold World.shape?;rw [hh]
   try rfl
  ·
   rintro e w' ⟨h1,rfl⟩;refine ⟨h1,⟨hb,_,v,.inr rfl,heap_set hh _,hown.1,?_⟩,Keeps.set B w b 0 _,World.size_setCell _ _ _⟩;rcases hown.2 with hn | ⟨g,cap,cur,fz,hv,hbg,hg,rest⟩
   ·
    exact .inl hn
   ·
    have hne:g ≠ b:=by omega
    refine .inr ⟨g,cap,cur,fz,hv,hbg,?_,rest⟩;rw [<- hg];simp [World.setCell,Array.getElem?_modify];intro e;exact absurd e.symm hne
 ·
  refine (Any.Builder_copyCheck_used SB.lays240 Tryz.Builder_Extra_159.toX72 b w c0).mono ?_;rintro e w' ⟨h1,rfl⟩;exact ⟨h1,⟨hb,_,v,.inr rfl,hh,hown⟩,Keeps.refl _ _ _,rfl⟩
theorem after_app {B b:Nat} {w w2:World} {p v:Value} (hb:b < B) (hh:w.heap[b]? = some (.cells #[p,v] 161 (0,0))) (hg:w.grownBy w2 v.ownBlock) (hv:∀ k,v.ownBlock = some k -> B <= k) (hB:B <= w.heap.size) :
  w2.heap[b]? = some (.cells #[p,v] 161 (0,0))/\Keeps B b w w2:=
 ⟨(hg.block b (lt_of hh) (fun e=>by have:=hv b e.symm;omega)).trans hh,hg.os,hg.tape,hg.output,hg.size,fun k hk _=>hg.block k (by omega) (fun e=>by have:=hv k e.symm;omega)⟩
theorem put {B b:Nat} {out:List UInt8} {w:World} {p v v':Value} (hb:b < B) (hp:p = .pointer none \/ p = .pointer (some ⟨b,0,none⟩)) (hh:w.heap[b]? = some (.cells #[p,v] 161 (0,0))) (hown:w.ownsRowF B 5 1 v' out.length (Lib.byteCells out)) :
  Bw B b out (w.setCell ⟨b,1,none⟩ v'):=by
 refine ⟨hb,p,v',hp,heap_set hh v',hown.1,?_⟩;rcases hown.2 with hn | ⟨g,cap,cur,fz,hv,hbg,hg,rest⟩
 ·
  exact .inl hn
 ·
  have hne:g ≠ b:=by omega
  refine .inr ⟨g,cap,cur,fz,hv,hbg,?_,rest⟩;rw [<- hg];simp [World.setCell,Array.getElem?_modify];intro e;exact absurd e.symm hne
theorem writeString_calls (B b:Nat) (out l:List UInt8) (w:World) (h:Bw B b out w) (hl:out.length + l.length <= 140737488355328) (hB:B <= w.heap.size) :
  Calls Tryz.prog 106 #[.pointer (some ⟨b,0,none⟩),.string (mkS l)] w fun e w'=>(∃ v,e = .returned v)/\Bw B b (out ++ l) w'/\Keeps B b w w':=by
 obtain ⟨i0,hi,hz0,hz1,hz2⟩:=info_parts Tryz.Builder_Extra_159.infoByte;have HC:=Zz (check_calls B b out w h);have zl:=mkS_size l;clear h;go_enter func106,ntmps106;go_wp2_with fail;refine HC.o.mono ?_;rintro e w1 ⟨rfl,⟨hb,p,v,hp,hh,hown⟩,hk,hz⟩;have HK:=Zz hk;have c0:w1.cell? ⟨b,0,none⟩ = some p:=by rw [Lib.cell_of_heap hh];rfl
 have c1:w1.cell? ⟨b,1,none⟩ = some v:=by rw [Lib.cell_of_heap hh];rfl
 go_wp2_with (at_builtin;refine Lib.wpList_append_own_stringF _ rfl _ _ 55 9 rfl B 5 i0 underlying55 underlying9 hi hz0 hz1 hz2 _ _ _ rfl hown (mkS l) rfl ?c3 ?c4 ?c5 ?_)
 case c3=>unfold maxLen;omega
 case c4=>omega
 case c5=>omega
 intro v' w2 hown' hgrow _;obtain ⟨hb2,hk2⟩:=after_app hb hh hgrow (fun k hk=>(hown.lt k hk).1) (by omega);have d0:w2.cell? ⟨b,0,none⟩ = some p:=by rw [Lib.cell_of_heap hb2];rfl
 have d1:w2.cell? ⟨b,1,none⟩ = some v:=by rw [Lib.cell_of_heap hb2];rfl
 have f1:w2.frozen? ⟨b,1,none⟩ = false:=Lib.frozen_of_heap hb2 1;have HO:=Zz hown';have HP:=Zz hp;have HB2:=Zz hb2;have HK2:=Zz (HK.o.trans hk2);obtain ⟨ao,n',cap,rfl⟩:∃ ao n' cap,v' = .slice ao n' cap:=by
  rcases hown'.2 with ⟨hv,_⟩ | ⟨g,cap,cur,fz,hv,_⟩
  ·
   exact ⟨_,_,_,hv⟩
  ·
   exact ⟨_,_,_,hv⟩
 clear hown hown' hgrow hp hh hb2 hk hk2 c0 c1;go_wp2;go_ret2;exact ⟨⟨_,rfl⟩,put hb HP.o HB2.o (by have:=HO.o;rw [Bld.strCells_eq,Bld.byteCells_append] at this;rw [Zl];exact this),HK2.o.trans (Keeps.set _ _ _ _ _)⟩
theorem writeByte_calls (B b:Nat) (out:List UInt8) (c:UInt8) (w:World) (h:Bw B b out w) (hl:out.length + 1 <= 140737488355328) (hB:B <= w.heap.size) :
  Calls Tryz.prog 141 #[.pointer (some ⟨b,0,none⟩),.int .u8 (c.toNat:Int)] w fun e w'=>(∃ v,e = .returned v)/\Bw B b (out ++ [c]) w'/\Keeps B b w w':=by
 obtain ⟨i0,hi,hz0,hz1,hz2⟩:=info_parts Tryz.Builder_Extra_159.infoByte;have HC:=Zz (check_calls B b out w h);clear h;go_enter func141,ntmps141;go_wp2_with fail;refine HC.o.mono ?_;rintro e w1 ⟨rfl,⟨hb,p,v,hp,hh,hown⟩,hk,hz⟩;have HK:=Zz hk;have c0:w1.cell? ⟨b,0,none⟩ = some p:=by rw [Lib.cell_of_heap hh];rfl
 have c1:w1.cell? ⟨b,1,none⟩ = some v:=by rw [Lib.cell_of_heap hh];rfl
 go_wp2_with (at_builtin;refine wpList_append_ownF _ rfl _ _ 55 rfl B 5 i0 (.int .u8 0) 1 1 underlying55 hi hz0 hz1 hz2 rfl (by decide) _ _ _ rfl (hown.alloc _) ⟨w1.heap.size,0,none⟩ 1 1 [.int .u8 (c.toNat:Int)] (by simp [Act.eval,hz]) rfl ?c1 ?c2 ?c3 ?c4 ?c5 ?_)
 case c1 =>
  intro j u hj
  match j,hj with
  | 0,hj=>simp at hj;subst hj;simp [Addr.add]
 case c2=>intro u hu;simp at hu;subst hu;rfl
 case c3=>unfold maxLen;omega
 case c4=>omega
 case c5=>simp;omega
 intro v' w2 hown' hgrow _;have hlt:b < w1.heap.size:=lt_of hh;obtain ⟨hb2,hk2⟩:=after_app (w:=w1.alloc _) hb ((Lib.alloc_old w1 _ b hlt).trans hh) hgrow (fun k hk=>(hown.lt k hk).1) (by simp;omega);have d0:w2.cell? ⟨b,0,none⟩ = some p:=by rw [Lib.cell_of_heap hb2];rfl
 have d1:w2.cell? ⟨b,1,none⟩ = some v:=by rw [Lib.cell_of_heap hb2];rfl
 have f1:w2.frozen? ⟨b,1,none⟩ = false:=Lib.frozen_of_heap hb2 1;have HO:=Zz hown';have HP:=Zz hp;have HB2:=Zz hb2;have HK2:=Zz ((HK.o.trans (Keeps.alloc (b:=b) w1 _ (by omega))).trans hk2);obtain ⟨ao,n',cap,rfl⟩:∃ ao n' cap,v' = .slice ao n' cap:=by
  rcases hown'.2 with ⟨hv,_⟩ | ⟨g,cap,cur,fz,hv,_⟩
  ·
   exact ⟨_,_,_,hv⟩
  ·
   exact ⟨_,_,_,hv⟩
 clear hown hown' hgrow hp hh hb2 hk hk2 c0 c1;go_wp2;go_ret;exact ⟨⟨_,rfl⟩,put hb HP.o HB2.o (by have:=HO.o;rw [show [Value.int .u8 (c.toNat:Int)] = Lib.byteCells [c] from rfl,Bld.byteCells_append] at this;simpa using this),HK2.o.trans (Keeps.set _ _ _ _ _)⟩
end Bw
namespace QT
open Go.RowKit B
structure Bel (W:World) where
 w:World
 bel:Below W.heap.size W w
def Bel.start (W:World):Bel W:=⟨W,bR _ _⟩
instance (W:World):Inhabited (Bel W):=⟨Bel.start W⟩
theorem Bel.call {P:Program} {f:FuncId} {args:Array Value} {W:World} (p:Bel W) {v:Value} (h:Calls P f args p.w fun e w'=>e = .returned v/\Below p.w.heap.size p.w w') :
  Calls P f args p.w fun e w''=>e = .returned v/\∃ q:Bel W,w'' = q.w:=
 h.mono fun _ w' ⟨he,hb⟩=>⟨he,⟨w',bel_step p.bel hb⟩,rfl⟩
theorem Bel.cell {W:World} (p:Bel W) {b o:Nat} {v:Value} (h:W.cell? ⟨b,o,none⟩ = some v):p.w.cell? ⟨b,o,none⟩ = some v:=
 (p.bel.cell (p:=⟨b,o,none⟩) (cell_lt h)).trans h
section
variable {P : Program} {ops : Array Oper} {md : Region.Mode} {C : World → Prop}
def headQ (P:Program) (md:Region.Mode) (ops:Array Oper) (C:World -> Prop) (n:Nat) (L:Array Bool -> Act -> Prop):Nat -> Array Bool -> Act -> Prop
 | 0,listed,a=>L listed a
 | f + 1,listed,a=>Region.ready md ops listed ≠ []/\∀ i ∈ Region.ready md ops listed,i < n/\qOp P ops C i (headQ P md ops C n L f (listed.setIfInBounds i true)) a
theorem any_of_headQ {n g:Nat} {L:Array Bool -> Act -> Prop} {Q':Exit -> Act -> World -> Prop} (hL:∀ listed a w,C w -> L listed a -> wpAny P md ops Q' g listed a w) :
  ∀ (f:Nat) (listed:Array Bool) (a:Act) (w:World),C w -> headQ P md ops C n L f listed a -> wpAny P md ops Q' (f + g) listed a w
 | 0,listed,a,w,hC,h=>by
  rw [Nat.zero_add]
  exact hL _ _ _ hC h
 | f + 1,listed,a,w,hC,h=>by
  rw [Nat.add_right_comm]
  exact ⟨fun h0=>absurd h0 h.1,fun i hi=>wpOp_of_qOp hC (fun a' w' hC' h'=>any_of_headQ hL f _ a' w' hC' h') (h.2 i hi).2⟩
theorem headQ_first {n i:Nat} {oi:Oper} {v:Value} {L:Array Bool -> Act -> Prop} (hi:ops[i]? = some oi) (hsel:∀ (j:Nat) (o:Oper) cs b,ops[j]? = some o -> o.op ≠ .select cs b)
  (hs:Region.sinkB md ops n = true) (hc:Region.chainB md ops n = true) (hn:n < ops.size) (hin:i < n) (hdone:∀ listed a,L listed a -> ∀ j ∈ Region.ready md ops listed,n <= j) :
  ∀ (f:Nat) (listed:Array Bool) (a:Act),HeadInv md ops n listed ->
   (∀ j oj,ops[j]? = some oj -> j ≠ i -> listed.getD j true = false -> (∀ e ∈ oj.after,Region.binds md e = true -> e.on ≠ i) -> oi.apart ops oj = true) ->
   i ∈ Region.ready md ops listed -> YieldsIn P ops C oi v a -> headQ P md ops C n L f (listed.setIfInBounds i true) (a.put oi.dst v) -> headQ P md ops C n L (f + 1) listed a:=by
 intro f
 induction f with
 | zero =>
  intro listed a inv _ hr hy H;refine ⟨fun h=>(by rw [h] at hr;cases hr),fun j hj=>?_⟩;have hjn:j < n:=Nat.lt_of_not_le fun h=>tail_waits hs hc hn inv _ i rfl hin (mem_ready.1 hr).1 j h hj
  refine ⟨hjn,?_⟩;by_cases hji:j = i
  ·
   rw [hji];exact hy.qOp hi H
  ·
   exact absurd (hdone _ _ H j (ready_mono hj hji)) (by omega)
 | succ f ih =>
  intro listed a inv hfree hr hy H;have hun:=(mem_ready.1 hr).1;refine ⟨fun h=>(by rw [h] at hr;cases hr),fun j hj=>?_⟩;have hjn:j < n:=Nat.lt_of_not_le fun h=>tail_waits hs hc hn inv _ i rfl hin hun j h hj
  refine ⟨hjn,?_⟩;by_cases hji:j = i
  ·
   rw [hji];exact hy.qOp hi H
  ·
   obtain ⟨hjun,oj,hoj,hall⟩:=mem_ready.1 hj;have hnot:∀ e ∈ oj.after,Region.binds md e = true -> e.on ≠ i:=fun e he hb heq=>by
    have h1:=hall e he hb;rw [heq,getD_both hun] at h1;cases h1
   have h2:=qOp_put hoj (hfree j oj hoj hji hjun hnot) (fun cs b=>hsel i oi cs b hi) (fun cs b=>hsel j oj cs b hoj) hy (H.2 j (ready_mono hj hji)).2;refine qOp_mono (fun a' h3=>ih (listed.setIfInBounds j true) a' (inv.set hj hjn) (fun k ok hk hki hun' hno=>?_) (ready_mono hr (Ne.symm hji)) h3.1 ?_) h2
   ·
    refine hfree k ok hk hki ?_ hno;by_cases hjk:j = k
    ·
     rw [<- hjk];exact hjun
    ·
     rwa [getD_set_ne true hjk] at hun'
   ·
    rw [Array.setIfInBounds_comm _ _ hji];exact h3.2
theorem headQ_lex {n g:Nat} {Lq:Act -> Prop} (hsel:Region.noSelect ops = true) (hs:Region.sinkB md ops n = true) (hc:Region.chainB md ops n = true) (hn:n < ops.size) :
  ∀ (l:List Oper) (k:Nat) (listed:Array Bool) (a:Act),(∀ j,j < l.length -> l[j]? = ops[k + j]?) -> k + l.length = n -> HeadInv md ops n listed -> Region.lexHead md ops g l.length k listed = true ->
   wpQuiet P ops C Lq l a -> headQ P md ops C n (fun listed' a'=>Region.seqB md ops g n listed' = true/\Lq a') l.length listed a
 | [],k,listed,a,_,hk,_,hB,h=>by
  obtain rfl:k = n:=by simpa using hk
  exact ⟨by simpa [Region.lexHead] using hB,h⟩
 | o :: l,k,listed,a,hl,hk,inv,hB,h=>by
  have h0:ops[k]? = some o:=by simpa using (hl 0 (by simp)).symm
  simp only [Zc] at hk;simp only [Zc,Region.lexHead,Bool.and_eq_true] at hB;have hr:k ∈ Region.ready md ops listed:=by simpa using hB.1.1
  have hq:qOp P ops C k (wpQuiet P ops C Lq l) a:=by
   unfold qOp;simp only [h0];exact h
  obtain ⟨v,hy,hK⟩:=yieldsIn_of_qOp h0 hq;refine headQ_first h0 (Region.noSelect_spec hsel) hs hc hn (by omega) (fun _ _ hL=>seqB_ready hL.1) l.length listed a inv (Region.free_spec h0 hB.1.2) hr hy ?_;exact headQ_lex hsel hs hc hn l (k + 1) _ _ (fun j hj=>by
   have:=hl (j + 1) (by simp;omega);simpa [Nat.add_assoc,Nat.add_comm 1 j] using this) (by omega) (inv.set hr (by omega)) hB.2 hK
theorem region_tail {id:Nat} {Q:Exit -> Act -> World -> Prop} {a:Act} {w:World} {l:List Oper} (n:Nat) (hm:P.follows .mixedOrders = true) (hB:Region.lexTailB .any l.toArray n = true) (hC:C { w with drawn:=w.drawn + 1 })
  (h:wpQuiet P l.toArray C (fun a'=>∀ w',C w' -> wpList P l.toArray Q (l.drop n) a' w') (l.take n) a):(Code.region id l.toArray true).wp P Q a w:=by
 simp only [Region.lexTailB,Bool.and_eq_true,decide_eq_true_eq] at hB;obtain ⟨⟨⟨⟨hsel,hn⟩,hs⟩,hc⟩,hlex⟩:=hB;have hn':n < l.length:=by simpa using hn
 have htl:(l.take n).length = n:=by simp;omega
 have hdl:(l.drop n).length = l.toArray.size - n:=by simp
 have inv0:HeadInv .any l.toArray n (Array.replicate l.toArray.size false):=
  ⟨by simp,fun j oj _ hl=>(by rw [getD_replicate_false] at hl;cases hl),fun t _ ht=>getD_in (by simpa using ht) (getD_replicate_false _ _)⟩
 have H:=headQ_lex (P:=P) (C:=C) (md:=.any) (g:=l.toArray.size - n) hsel hs hc hn (l.take n) 0 _ a (fun j hj=>by
  rw [htl] at hj;simp [hj]) (by simpa using htl) inv0 (by rw [htl];exact hlex) h
 rw [htl] at H;refine wp_region_any hm ?_;have:=any_of_headQ (Q':=Q) (g:=l.toArray.size - n) (fun listed a' w' hC' hL=>by
  have:=wpAny_of_seq (md:=.any) (Q':=Q) (l.drop n) n listed a' w' (fun j=>by simp [List.getElem?_drop]) (by rw [hdl];exact hL.1) (hL.2 w' hC')
  rwa [hdl] at this) n _ _ _ hC H
 rwa [show n + (l.toArray.size - n) = l.toArray.size by omega] at this
theorem region_bel {id:Nat} {Q:Exit -> Act -> World -> Prop} {a:Act} {w:World} {l:List Oper} (n:Nat) (hm:P.follows .mixedOrders = true) (hB:Region.lexTailB .any l.toArray n = true)
  (h:wpQuiet P l.toArray (fun w'=>∃ p:Bel w,w' = p.w) (fun a'=>∀ w',(∃ p:Bel w,w' = p.w) -> wpList P l.toArray Q (l.drop n) a' w') (l.take n) a):(Code.region id l.toArray true).wp P Q a w:=
 region_tail (C:=fun w'=>∃ p:Bel w,w' = p.w) n hm hB ⟨⟨_,(bR _ w).drew⟩,rfl⟩ h
theorem region_all {id:Nat} {Q:Exit -> Act -> World -> Prop} {a:Act} {w:World} {l:List Oper} (hm:P.follows .mixedOrders = true) (hB:Region.lexB .any l.toArray = true)
  (h:wpQuiet P l.toArray (fun w'=>∃ p:Bel w,w' = p.w) (fun a'=>∀ w',(∃ p:Bel w,w' = p.w) -> Q .normal a' w') l a):(Code.region id l.toArray true).wp P Q a w:=
 wp_region_quiet (C:=fun w'=>∃ p:Bel w,w' = p.w) hm hB ⟨⟨_,(bR _ w).drew⟩,rfl⟩ (by simpa using h)
end
end QT
namespace Show
open Go.RowKit Go.Lib B Rd Utf TermPure Tx Env Bld
theorem esc_sign {b:UInt8} {n:Nat} (hn:n = b.toNat) (h:n = 34 \/ n = 92):escB b = [92,UInt8.ofNat n]:=by
 rcases h with rfl | rfl
 ·
  obtain rfl:b = 34:=by apply UInt8.toNat_inj.1;rw [<- hn];rfl
  rfl
 ·
  obtain rfl:b = 92:=by apply UInt8.toNat_inj.1;rw [<- hn];rfl
  rfl
theorem esc_short {b:UInt8} {n:Nat} (hn:n = b.toNat) (h:n = 8 \/ n = 9 \/ n = 10 \/ n = 12 \/ n = 13):escB b = [92,short n]:=by
 rcases h with rfl | rfl | rfl | rfl | rfl
 ·
  obtain rfl:b = 8:=by apply UInt8.toNat_inj.1;rw [<- hn];rfl
  rfl
 ·
  obtain rfl:b = 9:=by apply UInt8.toNat_inj.1;rw [<- hn];rfl
  rfl
 ·
  obtain rfl:b = 10:=by apply UInt8.toNat_inj.1;rw [<- hn];rfl
  rfl
 ·
  obtain rfl:b = 12:=by apply UInt8.toNat_inj.1;rw [<- hn];rfl
  rfl
 ·
  obtain rfl:b = 13:=by apply UInt8.toNat_inj.1;rw [<- hn];rfl
  rfl
theorem esc_ne {b:UInt8} {n:Nat} (hn:n = b.toNat) (k:UInt8) (h:n ≠ k.toNat):b ≠ k:=by
 rintro rfl;exact h hn
theorem esc_hex {b:UInt8} {n:Nat} (hn:n = b.toNat) (h:n < 32 \/ n = 127) (h8:n ≠ 8) (h9:n ≠ 9) (h10:n ≠ 10) (h12:n ≠ 12) (h13:n ≠ 13):escB b = [92,117,48,48,hexD (n / 16),hexD (n % 16)]:=by
 unfold escB;rw [if_neg (esc_ne hn 34 (show n ≠ 34 by omega)),if_neg (esc_ne hn 92 (show n ≠ 92 by omega)),if_neg (esc_ne hn 10 h10),if_neg (esc_ne hn 13 h13),if_neg (esc_ne hn 9 h9),if_neg (esc_ne hn 8 h8),if_neg (esc_ne hn 12 h12),if_pos (by omega),hn]
theorem esc_none {b:UInt8} {n:Nat} (hn:n = b.toNat) (h1:¬ n < 32) (h2:n ≠ 127) (h3:n ≠ 34) (h4:n ≠ 92):escB b = [b]:=by
 unfold escB;rw [if_neg (esc_ne hn 34 h3),if_neg (esc_ne hn 92 h4),if_neg (esc_ne hn 10 (show n ≠ 10 by omega)),if_neg (esc_ne hn 13 (show n ≠ 13 by omega)),if_neg (esc_ne hn 9 (show n ≠ 9 by omega)),if_neg (esc_ne hn 8 (show n ≠ 8 by omega)),if_neg (esc_ne hn 12 (show n ≠ 12 by omega)),if_neg (by omega)]
theorem esc_len6 (b:UInt8):(escB b).length <= 6:=by
 unfold escB
 repeat' split
 all_goals simp
theorem flat_len:∀ l:List UInt8,(l.flatMap escB).length <= 6 * l.length
 | []=>by simp
 | b :: l=>by
  have h1:=flat_len l
  have h2:=esc_len6 b
  rw [List.flatMap_cons,Zl,Zc]
  omega
theorem flat_take (s:List UInt8) (k:Nat) (h:k < s.length):(s.take (k + 1)).flatMap escB = (s.take k).flatMap escB ++ escB s[k]:=by
 rw [Zt h,List.flatMap_append];simp
theorem quoted_calls (s:List UInt8) (hs:s.length <= 17592186044416) (w:World) :
  Calls Tryz.prog 98 #[.string (mkS s)] w fun e w'=>e = .returned (.string (mkS (TermPure.quoted s)))/\Below w.heap.size w w':=by
 obtain ⟨cap,o,hc1,hc2,hcv,ho⟩:=bytes_conv s (by omega) (w.alloc (.cells #[.pointer none,.slice none 0 0] 161));have ho':=ho (w.alloc (.cells #[.pointer none,.slice none 0 0] 161)).drew rfl;rw [show (w.alloc (.cells #[.pointer none,.slice none 0 0] 161)).heap.size = w.heap.size + 1 by simp] at ho';have HC0:=Zz (fun k h=>(ho' k h).1);have HB0:Hid (Bw.Bw (w.heap.size + 2) w.heap.size [] ((w.alloc (.cells #[.pointer none,.slice none 0 0] 161)).drew.alloc o)):=
  Zz (Bw.Bw.new (by omega) ((Lib.alloc_old _ _ _ (by simp)).trans (Kd.heap_new _ _)))
 have HW0:Hid (Below w.heap.size w ((w.alloc (.cells #[.pointer none,.slice none 0 0] 161)).drew.alloc o)):=Zz (bel_alloc (bel_drew (bel_alloc (bR _ _) _)) _);clear ho ho';go_enter func98,ntmps98;go_wp2;go_loopw [9] (fun vi wr=>∃ k:Nat,k <= s.length/\vi = .int .i64 k/\Hid (Bw.Bw (w.heap.size + 2) w.heap.size ((s.take k).flatMap escB) wr)/\Hid (Below w.heap.size w wr)/\w.heap.size + 2 <= wr.heap.size/\Hid (∀ i (h:i < s.length),wr.cell? ⟨w.heap.size + 1,i,none⟩ = some (.int .u8 (s[i].toNat:Int)))) (fun vi _=>s.length - (intOf vi).toNat)
 case atStart=>exact ⟨0,by omega,rfl,HB0,HW0,by simp,HC0⟩
 case round =>
  obtain ⟨k,hk,rfl,HB,HW,HZ,HC⟩:=hrel;have hz0:w.heap.size <= wr.heap.size:=by omega
  by_cases hlt:k < s.length
  ·
   have hd:decide (k < s.length) = true:=dT hlt;have hlen:((s.take k).flatMap escB).length <= 6 * s.length:=Zh (flat_len _) (by rw [Zi];omega);have c0:=HC.o k hlt;have HT:=Zz (flat_take s k hlt);have ik:(k:Int) < (s.length:Int):=by omega
   obtain ⟨b,hb⟩:∃ b,b = s[k]:=⟨_,rfl⟩;rw [<- hb] at c0 HT;obtain ⟨n,hn⟩:∃ n,n = b.toNat:=⟨_,rfl⟩;rw [<- hn] at c0;have hn256:n < 256:=by rw [hn];exact b.toNat_lt
   have HN:=Zz hn;clear hb hn;by_cases h1:n = 34 \/ n = 92
   ·
    have HE:=Zz (esc_sign HN.o h1);have HA:=Zz (fun w=>escaped_sign n h1 w);have d1:decide ((n:Int) < 32) = false:=dF (by omega);have d2:((n:Int) == 127) = false:=by rw [Zb];omega
    have hs3:((n:Int) == 34) = true \/ (((n:Int) == 34) = false/\((n:Int) == 92) = true):=by
     rcases h1 with rfl | rfl
     ·
      exact .inl rfl
     ·
      exact .inr ⟨rfl,rfl⟩
    clear h1;rcases hs3 with d3 | ⟨d3,d4⟩
    all_goals
     go_wp2_with fail;refine (HA.o wr).mono ?_;rintro e w1 ⟨rfl,hb1⟩;have HB1:=Zz (HB.o.kept hb1.block);have HW1:=Zz (bel_step HW.o hb1);have HC1:=Zz (fun i (h:i < s.length)=>(hb1.cell (p:=⟨w.heap.size + 1,i,none⟩) (by dsimp only;omega)).trans (HC.o i h));have hz1:w.heap.size + 2 <= w1.heap.size:=Zh HZ hb1.size;clear hb1 HB HW HC;go_wp2_with fail;refine (Bw.writeString_calls _ _ _ _ w1 HB1.o (by simp only [Zc,List.length_nil];omega) hz1).mono ?_;rintro e w2 ⟨⟨v,rfl⟩,hB2,hK2⟩;have HB2:=Zz hB2;have HW2:=Zz (hK2.below HW1.o (lR _) (by omega));have HC2:=Zz (fun i (h:i < s.length)=>(Bw.Keeps.cell hK2 (by omega) (by omega)).trans (HC1.o i h));have hz2:w.heap.size + 2 <= w2.heap.size:=Zh hz1 hK2.size;clear hB2 hK2 HB1 HW1 HC1;go_wp2;go_roundw
     case rel=>exact ⟨k + 1,by omega,by go_num,Zz (by rw [HT.o,HE.o];exact HB2.o),HW2,hz2,HC2⟩
     case measure=>simp [intOf];omega
   by_cases h2:n = 8 \/ n = 9 \/ n = 10 \/ n = 12 \/ n = 13
   ·
    have HE:=Zz (esc_short HN.o h2);have HA:=Zz (fun w=>escaped_short n h2 w);have d1:decide ((n:Int) < 32) = true:=dT (by omega);go_wp2_with fail;refine (HA.o wr).mono ?_;rintro e w1 ⟨rfl,hb1⟩;have HB1:=Zz (HB.o.kept hb1.block);have HW1:=Zz (bel_step HW.o hb1);have HC1:=Zz (fun i (h:i < s.length)=>(hb1.cell (p:=⟨w.heap.size + 1,i,none⟩) (by dsimp only;omega)).trans (HC.o i h));have hz1:w.heap.size + 2 <= w1.heap.size:=Zh HZ hb1.size;clear hb1 HB HW HC;go_wp2_with fail;refine (Bw.writeString_calls _ _ _ _ w1 HB1.o (by simp only [Zc,List.length_nil];omega) hz1).mono ?_;rintro e w2 ⟨⟨v,rfl⟩,hB2,hK2⟩;have HB2:=Zz hB2;have HW2:=Zz (hK2.below HW1.o (lR _) (by omega));have HC2:=Zz (fun i (h:i < s.length)=>(Bw.Keeps.cell hK2 (by omega) (by omega)).trans (HC1.o i h));have hz2:w.heap.size + 2 <= w2.heap.size:=Zh hz1 hK2.size;clear hB2 hK2 HB1 HW1 HC1;go_wp2;go_roundw
    case rel=>exact ⟨k + 1,by omega,by go_num,Zz (by rw [HT.o,HE.o];exact HB2.o),HW2,hz2,HC2⟩
    case measure=>simp [intOf];omega
   by_cases h3:n < 32
   ·
    have HE:=Zz (esc_hex HN.o (.inl h3) (by omega) (by omega) (by omega) (by omega) (by omega));have HA:=Zz (fun w=>escaped_hex n (.inl h3) (by omega) (by omega) (by omega) (by omega) (by omega) w);have d1:decide ((n:Int) < 32) = true:=dT (by omega);go_wp2_with fail;refine (HA.o wr).mono ?_;rintro e w1 ⟨rfl,hb1⟩;have HB1:=Zz (HB.o.kept hb1.block);have HW1:=Zz (bel_step HW.o hb1);have HC1:=Zz (fun i (h:i < s.length)=>(hb1.cell (p:=⟨w.heap.size + 1,i,none⟩) (by dsimp only;omega)).trans (HC.o i h));have hz1:w.heap.size + 2 <= w1.heap.size:=Zh HZ hb1.size;clear hb1 HB HW HC;go_wp2_with fail;refine (Bw.writeString_calls _ _ _ _ w1 HB1.o (by simp only [Zc,List.length_nil];omega) hz1).mono ?_;rintro e w2 ⟨⟨v,rfl⟩,hB2,hK2⟩;have HB2:=Zz hB2;have HW2:=Zz (hK2.below HW1.o (lR _) (by omega));have HC2:=Zz (fun i (h:i < s.length)=>(Bw.Keeps.cell hK2 (by omega) (by omega)).trans (HC1.o i h));have hz2:w.heap.size + 2 <= w2.heap.size:=Zh hz1 hK2.size;clear hB2 hK2 HB1 HW1 HC1;go_wp2;go_roundw
    case rel=>exact ⟨k + 1,by omega,by go_num,Zz (by rw [HT.o,HE.o];exact HB2.o),HW2,hz2,HC2⟩
    case measure=>simp [intOf];omega
   by_cases h4:n = 127
   ·
    have HE:=Zz (esc_hex HN.o (.inr h4) (by omega) (by omega) (by omega) (by omega) (by omega));have HA:=Zz (fun w=>escaped_hex n (.inr h4) (by omega) (by omega) (by omega) (by omega) (by omega) w);subst h4;go_wp2_with fail;refine (HA.o wr).mono ?_;rintro e w1 ⟨rfl,hb1⟩;have HB1:=Zz (HB.o.kept hb1.block);have HW1:=Zz (bel_step HW.o hb1);have HC1:=Zz (fun i (h:i < s.length)=>(hb1.cell (p:=⟨w.heap.size + 1,i,none⟩) (by dsimp only;omega)).trans (HC.o i h));have hz1:w.heap.size + 2 <= w1.heap.size:=Zh HZ hb1.size;clear hb1 HB HW HC;go_wp2_with fail;refine (Bw.writeString_calls _ _ _ _ w1 HB1.o (by simp only [Zc,List.length_nil];omega) hz1).mono ?_;rintro e w2 ⟨⟨v,rfl⟩,hB2,hK2⟩;have HB2:=Zz hB2;have HW2:=Zz (hK2.below HW1.o (lR _) (by omega));have HC2:=Zz (fun i (h:i < s.length)=>(Bw.Keeps.cell hK2 (by omega) (by omega)).trans (HC1.o i h));have hz2:w.heap.size + 2 <= w2.heap.size:=Zh hz1 hK2.size;clear hB2 hK2 HB1 HW1 HC1;go_wp2;go_roundw
    case rel=>exact ⟨k + 1,by omega,by go_num,Zz (by rw [HT.o,HE.o];exact HB2.o),HW2,hz2,HC2⟩
    case measure=>simp [intOf];omega
   ·
    have HE:=Zz (esc_none HN.o h3 h4 (by omega) (by omega));have d1:decide ((n:Int) < 32) = false:=dF (by omega);have d2:((n:Int) == 127) = false:=by rw [Zb];omega
    have d3:((n:Int) == 34) = false:=by rw [Zb];omega
    have d4:((n:Int) == 92) = false:=by rw [Zb];omega
    have HA:=Zz (Bw.writeByte_calls _ _ _ b wr HB.o (by omega) HZ);rw [<- HN.o] at HA;go_wp2_with fail;refine HA.o.mono ?_;rintro e w2 ⟨⟨v,rfl⟩,hB2,hK2⟩;have HB2:=Zz hB2;have HW2:=Zz (hK2.below HW.o (lR _) (by omega));have HC2:=Zz (fun i (h:i < s.length)=>(Bw.Keeps.cell hK2 (by omega) (by omega)).trans (HC.o i h));have hz2:w.heap.size + 2 <= w2.heap.size:=Zh HZ hK2.size;clear hB2 hK2 HB HW HC c0;go_wp2;go_roundw
    case rel=>exact ⟨k + 1,by omega,by go_num,Zz (by rw [HT.o,HE.o];exact HB2.o),HW2,hz2,HC2⟩
    case measure=>simp [intOf];omega
  ·
   have hd:decide (k < s.length) = false:=dF hlt;obtain rfl:k = s.length:=by omega
   have HB':Hid (Bw.Bw (w.heap.size + 2) w.heap.size (s.flatMap escB) wr):=Zz (by have:=HB.o;rwa [List.take_length] at this);clear HB;go_wp2_with fail;refine (string_calls _ _ _ wr HB'.o.toBld hz0).mono ?_;rintro e w2 ⟨rfl,_,hK2⟩;have HW2:=Zz (HW.o.trans hK2);clear hK2 HB';have hfl:=flat_len s;have HQ:Hid (TermPure.quoted s = 34 :: (s.flatMap escB ++ [34])):=Zz rfl;generalize s.flatMap escB = out at hfl HQ;have zl:=mkS_size out;have z1:(⟨#[34]⟩:ByteArray).size = 1:=rfl;have z2:((⟨#[34]⟩:ByteArray) ++ mkS out).size = 1 + out.length:=by rw [ByteArray.size_append,z1,zl]
   have z3:out.length <= 105553116266496:=by omega
   go_wp2;go_ret;exact ⟨ret_str (by rw [HQ.o,mkS_lit,mkS_append,mkS_append];rfl),HW2.o⟩
theorem box_cells (w:World) (k:Int) (x ex:List UInt8) (p:QT.Bel (w.alloc (.cells #[.int .i64 k,.string (mkS x),.string (mkS ex)] 24))) :
  p.w.cell? ⟨w.heap.size,1,none⟩ = some (.string (mkS x))/\p.w.cell? ⟨w.heap.size,2,none⟩ = some (.string (mkS ex)):=by
 have ht:=Tc.TC.new w ⟨k,x,ex⟩;exact ⟨p.cell ht.c1,p.cell ht.c2⟩
theorem quoted_len (x:List UInt8):(TermPure.quoted x).length <= 6 * x.length + 2:=by
 have:=flat_len x;unfold TermPure.quoted;rw [Zc,Zl,List.length_singleton];omega
theorem show_calls (t:Term) (hx:t.text.length <= 17592186044416) (hex:t.extra.length <= 17592186044416) (w:World) :
  Calls Tryz.prog 56 #[Ref5.termV t] w fun e w'=>e = .returned (.string (mkS (shown t)))/\Below w.heap.size w w':=by
 obtain ⟨kind,x,ex⟩:=t;dsimp only at hx hex;have HQ:=Zz (fun w=>quoted_calls x hx w);have hql:=quoted_len x;have zx:=mkS_size x;have ze:=mkS_size ex;unfold Ref5.termV;dsimp only;have HBX:=Zz (fun k=>box_cells w k x ex);have HBe:=Zz (fun (k:Int)=>bel_alloc (bR w.heap.size w) (.cells #[.int .i64 k,.string (mkS x),.string (mkS ex)] 24));by_cases h1:kind = 1
 ·
  subst h1;have z1:(⟨#[60]⟩:ByteArray).size = 1:=rfl;have z2:((⟨#[60]⟩:ByteArray) ++ mkS x).size = 1 + x.length:=by rw [ByteArray.size_append,z1,zx]
  have z3:(⟨#[62]⟩:ByteArray).size = 1:=rfl;go_enter func56,ntmps56;go_wp2;go_ret;exact ⟨ret_str (by rw [mkS_lit,mkS_lit,mkS_append,mkS_append];rfl),HBe.o _⟩
 have e1:(kind == 1) = false:=by rw [Zb];exact h1
 by_cases h2:kind = 2
 ·
  subst h2;have z1:(⟨#[95,58]⟩:ByteArray).size = 2:=rfl;go_enter func56,ntmps56;go_wp2;go_ret;exact ⟨ret_str (by rw [mkS_lit,mkS_append];rfl),HBe.o _⟩
 have e2:(kind == 2) = false:=by rw [Zb];exact h2
 have HS0:Hid (¬ kind = 1/\¬ kind = 2):=Zz ⟨h1,h2⟩;clear h1 h2;by_cases h4:kind = 4
 ·
  subst h4;have HS:Hid (shown ⟨4,x,ex⟩ = TermPure.quoted x ++ 64 :: ex):=Zz rfl;generalize TermPure.quoted x = q at *;have zq:=mkS_size q;have z1:(⟨#[64]⟩:ByteArray).size = 1:=rfl;have z2:(mkS q ++ (⟨#[64]⟩:ByteArray)).size = q.length + 1:=by rw [ByteArray.size_append,z1,zq]
  have b1:=fun p=>(HBX.o 4 p).1
  have b2:=fun p=>(HBX.o 4 p).2
  go_enter func56,ntmps56;go_upto_region 7 with fail
  refine QT.region_all (by kernel_rfl) (by kernel_rfl) ?_
  repeat (go_big_quiet_step (exact QT.Bel.call _ (HQ.o _)))
  refine wpQuiet_nil ?_;intro _ hw';obtain ⟨⟨w2,hb⟩,rfl⟩:=hw';have HB:=Zz (bel_step (HBe.o 4) hb);clear hb b1 b2;go_wp2;go_ret;exact ⟨ret_str (by rw [HS.o,mkS_lit,mkS_append,mkS_append];simp),HB.o⟩
 have e4:(kind == 4) = false:=by rw [Zb];exact h4
 by_cases h5:kind = 5
 ·
  subst h5;have HS:Hid (shown ⟨5,x,ex⟩ = TermPure.quoted x ++ (94 :: 94 :: 60 :: (ex ++ [62]))):=Zz rfl;generalize TermPure.quoted x = q at *;have zq:=mkS_size q;have z1:(⟨#[94,94,60]⟩:ByteArray).size = 3:=rfl;have z3:(⟨#[62]⟩:ByteArray).size = 1:=rfl;have z2:(mkS q ++ (⟨#[94,94,60]⟩:ByteArray)).size = q.length + 3:=by rw [ByteArray.size_append,z1,zq]
  have z4:(mkS q ++ (⟨#[94,94,60]⟩:ByteArray) ++ mkS ex).size = q.length + 3 + ex.length:=by rw [ByteArray.size_append,z2,ze]
  have b1:=fun p=>(HBX.o 5 p).1
  have b2:=fun p=>(HBX.o 5 p).2
  go_enter func56,ntmps56;go_upto_region 9 with fail
  refine QT.region_all (by kernel_rfl) (by kernel_rfl) ?_
  repeat (go_big_quiet_step (exact QT.Bel.call _ (HQ.o _)))
  refine wpQuiet_nil ?_;intro _ hw';obtain ⟨⟨w2,hb⟩,rfl⟩:=hw';have HB:=Zz (bel_step (HBe.o 5) hb);clear hb b1 b2;go_wp2;go_ret;exact ⟨ret_str (by rw [HS.o,mkS_lit,mkS_lit,mkS_append,mkS_append,mkS_append];simp),HB.o⟩
 have e5:(kind == 5) = false:=by rw [Zb];exact h5
 have HS:Hid (shown ⟨kind,x,ex⟩ = TermPure.quoted x):=Zz (by unfold shown;dsimp only;rw [if_neg HS0.o.1,if_neg HS0.o.2,if_neg h4,if_neg h5]);clear h4 h5;go_enter func56,ntmps56;go_wp2_with fail;refine (HQ.o _).mono ?_;rintro e w2 ⟨rfl,hb⟩;have HB:=Zz (bel_step (HBe.o kind) hb);clear hb;go_wp2;go_ret;exact ⟨ret_str (by rw [HS.o]),HB.o⟩
end Show
namespace Print
open Go.RowKit Go.Lib B Rd Utf TermPure LinesPure Tx Env Bld Tri
def lineN (t:Triple):List UInt8:=shown t.s ++ (32 :: (shown t.p ++ (32 :: (shown t.o ++ [32,46,10]))))
def SmallT (t:Triple):Prop:=(t.s.text.length <= 1099511627776/\t.s.extra.length <= 1099511627776)/\(t.p.text.length <= 1099511627776/\t.p.extra.length <= 1099511627776)/\(t.o.text.length <= 1099511627776/\t.o.extra.length <= 1099511627776)
theorem shown_len (t:Term):(shown t).length <= 6 * t.text.length + t.extra.length + 10:=by
 have:=Show.quoted_len t.text;unfold shown
 repeat' split
 all_goals try simp only [Zc,Zl,List.length_nil]
 all_goals omega
theorem box9 (w:World) (t:Triple) (p:QT.Bel (w.alloc (.cells #[.int .i64 t.s.kind,.string (mkS t.s.text),.string (mkS t.s.extra),.int .i64 t.p.kind,.string (mkS t.p.text),.string (mkS t.p.extra),.int .i64 t.o.kind,.string (mkS t.o.text),.string (mkS t.o.extra)] 36))) :
  p.w.cell? ⟨w.heap.size,0,none⟩ = some (.int .i64 t.s.kind)/\p.w.cell? ⟨w.heap.size,1,none⟩ = some (.string (mkS t.s.text))/\p.w.cell? ⟨w.heap.size,2,none⟩ = some (.string (mkS t.s.extra)) /\
  p.w.cell? ⟨w.heap.size,3,none⟩ = some (.int .i64 t.p.kind)/\p.w.cell? ⟨w.heap.size,4,none⟩ = some (.string (mkS t.p.text))/\p.w.cell? ⟨w.heap.size,5,none⟩ = some (.string (mkS t.p.extra)) /\
  p.w.cell? ⟨w.heap.size,6,none⟩ = some (.int .i64 t.o.kind)/\p.w.cell? ⟨w.heap.size,7,none⟩ = some (.string (mkS t.o.text))/\p.w.cell? ⟨w.heap.size,8,none⟩ = some (.string (mkS t.o.extra)):=by
 have ht:=Ref5.T9.new w t;exact ⟨p.cell ht.s.c0,p.cell ht.s.c1,p.cell ht.s.c2,p.cell ht.p.c0,p.cell ht.p.c1,p.cell ht.p.c2,p.cell ht.o.c0,p.cell ht.o.c1,p.cell ht.o.c2⟩
theorem flat_take (l:List Triple) (k:Nat) (h:k < l.length):(l.take (k + 1)).flatMap lineN = (l.take k).flatMap lineN ++ lineN l[k]:=by
 rw [Zt h,List.flatMap_append];simp
theorem flat_le {l:List Triple} (hn:(l.flatMap lineN).length <= 140737488355328) (k:Nat) (h:k < l.length) {x:List UInt8} (hx:(l.take (k + 1)).flatMap lineN = (l.take k).flatMap lineN ++ x) :
  ((l.take k).flatMap lineN).length + x.length <= 140737488355328:=by
 rw [<- Zl,<- hx];refine Zh ?_ hn;have:l.flatMap lineN = (l.take (k + 1)).flatMap lineN ++ (l.drop (k + 1)).flatMap lineN:=by rw [<- List.flatMap_append,List.take_append_drop]
 rw [this,Zl];omega
theorem print_calls (l:List Triple) (A:Option Addr) (c:Nat) (w:World) (HL:triK.sl.M w (fun k=>k < w.heap.size) l [.slice A l.length c]) (hs:∀ t ∈ l,SmallT t) (hn:(l.flatMap lineN).length <= 140737488355328) :
  Calls Tryz.prog 62 #[.slice A l.length c] w fun e w'=>e = .returned (.string (mkS (l.flatMap lineN)))/\Below w.heap.size w w':=by
 obtain ⟨A',c',he,hlc,⟨h47,hcm⟩,hA,hrow⟩:=HL;obtain ⟨rfl,rfl⟩:A = A'/\c = c':=by simpa using he
 have HROW:=Zz hrow;have HS:=Zz hs;have HN:=Zz hn;have HB0:Hid (Bld w.heap.size w.heap.size [] (w.alloc (.cells #[.pointer none,.slice none 0 0] 161))):=Zz (Bld.new w);clear he hrow hs hn;go_enter func62,ntmps62;go_wp2;go_loopw [5,8] (fun v5 vi wr=>∃ k:Nat,k <= l.length/\vi = .int .i64 k/\Hid (Bld w.heap.size w.heap.size ((l.take k).flatMap lineN) wr)/\Hid (Below w.heap.size w wr)) (fun _ vi _=>l.length - (intOf vi).toNat)
 case atStart=>exact ⟨0,by omega,rfl,HB0,Zz (bel_alloc (bR _ _) _)⟩
 case round =>
  obtain ⟨k,hk,rfl,HB,HW⟩:=hrel;by_cases hlt:k < l.length
  ·
   have hd:decide (k < l.length) = true:=dT hlt;have ik:(k:Int) < (l.length:Int):=by omega
   obtain ⟨b,off,hAe,hb,hbl,hcells⟩:=Kd.row_addr HROW.o (by omega);subst hAe;obtain ⟨cs,⟨hcs,hfit⟩,hcell⟩:=hcells k hlt;obtain ⟨t,ht⟩:∃ t,t = l[k]:=⟨_,rfl⟩;rw [<- ht] at hcs;subst hcs;have mv:∀ j u,(triL t)[j]? = some u -> wr.cell? ⟨b,off + k * 9 + j,none⟩ = some u:=fun j u hu=>(HW.o.cell (p:=⟨b,off + k * 9 + j,none⟩) hbl).trans (hcell j u hu)
   have z0:wr.cell? ⟨b,off + k * 9,none⟩ = some (.int .i64 t.s.kind):=mv 0 _ rfl;have z1:=mv 1 _ rfl;have z2:=mv 2 _ rfl;have z3:=mv 3 _ rfl;have z4:=mv 4 _ rfl;have z5:=mv 5 _ rfl;have z6:=mv 6 _ rfl;have z7:=mv 7 _ rfl;have z8:=mv 8 _ rfl;clear hcells hcell mv;have fs:=HS.o t (by rw [ht];exact Zm hlt);have HT:=Zz (flat_take l k hlt);rw [<- ht] at HT;clear ht;obtain ⟨⟨sk,sx,se⟩,⟨pk,px,pe⟩,⟨ok,ox,oe⟩⟩:=t;dsimp only at z0 z1 z2 z3 z4 z5 z6 z7 z8;obtain ⟨⟨a1,a2⟩,⟨a3,a4⟩,⟨a5,a6⟩⟩:=fs;dsimp only at a1 a2 a3 a4 a5 a6;have HS1:=Zz (fun w=>Show.show_calls ⟨sk,sx,se⟩ (by dsimp only;omega) (by dsimp only;omega) w);have HS2:=Zz (fun w=>Show.show_calls ⟨pk,px,pe⟩ (by dsimp only;omega) (by dsimp only;omega) w);have HS3:=Zz (fun w=>Show.show_calls ⟨ok,ox,oe⟩ (by dsimp only;omega) (by dsimp only;omega) w);have l1:=shown_len ⟨sk,sx,se⟩;have l2:=shown_len ⟨pk,px,pe⟩;have l3:=shown_len ⟨ok,ox,oe⟩;dsimp only at l1 l2 l3;have HLN:Hid (lineN ⟨⟨sk,sx,se⟩,⟨pk,px,pe⟩,⟨ok,ox,oe⟩⟩ = shown ⟨sk,sx,se⟩ ++ (32 :: (shown ⟨pk,px,pe⟩ ++ (32 :: (shown ⟨ok,ox,oe⟩ ++ [32,46,10]))))):=Zz rfl;have HBX:=Zz (fun p=>box9 wr ⟨⟨sk,sx,se⟩,⟨pk,px,pe⟩,⟨ok,ox,oe⟩⟩ p);have HBe:=Zz (bel_alloc (bR wr.heap.size wr) (.cells #[.int .i64 sk,.string (mkS sx),.string (mkS se),.int .i64 pk,.string (mkS px),.string (mkS pe),.int .i64 ok,.string (mkS ox),.string (mkS oe)] 36));generalize shown ⟨sk,sx,se⟩ = S1 at *;generalize shown ⟨pk,px,pe⟩ = S2 at *;generalize shown ⟨ok,ox,oe⟩ = S3 at *;have y1:=mkS_size S1;have y2:=mkS_size S2;have y3:=mkS_size S3;have q1:(⟨#[32]⟩:ByteArray).size = 1:=rfl;have q3:(⟨#[32,46,10]⟩:ByteArray).size = 3:=rfl;have x1:(mkS S1 ++ (⟨#[32]⟩:ByteArray)).size = S1.length + 1:=by rw [ByteArray.size_append,y1,q1]
   have x2:(mkS S1 ++ (⟨#[32]⟩:ByteArray) ++ mkS S2).size = S1.length + 1 + S2.length:=by rw [ByteArray.size_append,x1,y2]
   have x3:(mkS S1 ++ (⟨#[32]⟩:ByteArray) ++ mkS S2 ++ (⟨#[32]⟩:ByteArray)).size = S1.length + 1 + S2.length + 1:=by rw [ByteArray.size_append,x2,q1]
   have x4:(mkS S1 ++ (⟨#[32]⟩:ByteArray) ++ mkS S2 ++ (⟨#[32]⟩:ByteArray) ++ mkS S3).size = S1.length + 1 + S2.length + 1 + S3.length:=by rw [ByteArray.size_append,x3,y3]
   have HCat:Hid (mkS S1 ++ (⟨#[32]⟩:ByteArray) ++ mkS S2 ++ (⟨#[32]⟩:ByteArray) ++ mkS S3 ++ (⟨#[32,46,10]⟩:ByteArray) = mkS (lineN ⟨⟨sk,sx,se⟩,⟨pk,px,pe⟩,⟨ok,ox,oe⟩⟩)):=Zz (by
    rw [HLN.o,mkS_lit,mkS_lit,mkS_append,mkS_append,mkS_append,mkS_append,mkS_append];simp)
   have b0:=fun p=>(HBX.o p).1
   have b1:=fun p=>(HBX.o p).2.1
   have b2:=fun p=>(HBX.o p).2.2.1
   have b3:=fun p=>(HBX.o p).2.2.2.1
   have b4:=fun p=>(HBX.o p).2.2.2.2.1
   have b5:=fun p=>(HBX.o p).2.2.2.2.2.1
   have b6:=fun p=>(HBX.o p).2.2.2.2.2.2.1
   have b7:=fun p=>(HBX.o p).2.2.2.2.2.2.2.1
   have b8:=fun p=>(HBX.o p).2.2.2.2.2.2.2.2
   dsimp only at b0 b1 b2 b3 b4 b5 b6 b7 b8;clear hfit;go_upto_region 5 with fail
   refine QT.region_bel 14 (by kernel_rfl) (by kernel_rfl) ?_;simp only [List.take_succ_cons,List.take_zero,List.drop_succ_cons,List.drop_zero]
   iterate 2 (go_big_quiet_step (fail))
   go_big_quiet_step (exact QT.Bel.call _ (HS1.o _))
   iterate 3 (go_big_quiet_step (fail))
   go_big_quiet_step (exact QT.Bel.call _ (HS2.o _))
   iterate 4 (go_big_quiet_step (fail))
   go_big_quiet_step (exact QT.Bel.call _ (HS3.o _))
   iterate 2 (go_big_quiet_step (fail))
   refine wpQuiet_nil ?_;intro w2 hw';obtain ⟨⟨_,hb⟩,rfl⟩:=hw';have HB2:=Zz ((HB.o.below HBe.o).below hb);have HW2:=Zz (bel_step (bel_step HW.o HBe.o) hb);have hz2:w.heap.size <= w2.heap.size:=HW2.o.size;have HLen:=Zz (flat_le HN.o k hlt HT.o);clear hb b0 b1 b2 b3 b4 b5 b6 b7 b8 HB z0 z1 z2 z3 z4 z5 z6 z7 z8;go_wp2_with fail;rw [HCat.o];refine (Bld.writeString_calls _ _ _ _ w2 HB2.o HLen.o hz2).mono ?_;rintro e w3 ⟨⟨v,rfl⟩,hB3,hb3⟩;have HB3:=Zz hB3;have HW3:=Zz (HW2.o.trans hb3);clear hB3 hb3 HB2 HW2;go_wp2;go_roundw
   case rel=>exact ⟨k + 1,by omega,by go_num,Zz (by rw [HT.o];exact HB3.o),HW3⟩
   case measure=>simp [intOf];omega
  ·
   have hd:decide (k < l.length) = false:=dF hlt;obtain rfl:k = l.length:=by omega
   have HB':Hid (Bld w.heap.size w.heap.size (l.flatMap lineN) wr):=Zz (by have:=HB.o;rwa [List.take_length] at this);have hz2:w.heap.size <= wr.heap.size:=HW.o.size;clear HB;go_wp2_with fail;refine (string_calls _ _ _ wr HB'.o hz2).mono ?_;rintro e w2 ⟨rfl,_,hK2⟩;have HW2:=Zz (HW.o.trans hK2);clear hK2 HB';go_wp2;go_ret;exact ⟨rfl,HW2.o⟩
end Print
namespace Cmp
open Go.RowKit Go.Lib B Rd Utf TermPure LinesPure Tx Env Tri SortP Print
theorem less_eq (a b:List UInt8):Op.bytesLess (mkS a).toList (mkS b).toList = decide (a < b):=by rw [mkS_toList,mkS_toList,Go.Proofs.bytesLess_eq]
theorem beq_eq (a b:List UInt8):((mkS a).toList == (mkS b).toList) = decide (a = b):=by
 rw [mkS_toList,mkS_toList];by_cases h:a = b <;> simp [h]
theorem isNaN_calls (a:List UInt8) (w:World):Calls Tryz.prog 174 #[.string (mkS a)] w fun e w'=>e = .returned (.bool false)/\w = w':=by
 go_enter func174,ntmps174;go_wp2;go_ret;exact ⟨rfl,rfl⟩
theorem compare_calls (a b:List UInt8) (w:World):Calls Tryz.prog 134 #[.string (mkS a),.string (mkS b)] w fun e w'=>e = .returned (.int .i64 (SortP.cmpL a b))/\w = w':=by
 have h1:=less_eq a b;have h2:=beq_eq a b;have HC:Hid (SortP.cmpL a b = if a < b then -1 else if b < a then 1 else 0):=Zz rfl;by_cases l1:a < b
 ·
  rw [dT l1] at h1;have HV:Hid (SortP.cmpL a b = -1):=Zz (by rw [HC.o,if_pos l1]);clear l1 HC h2;go_enter func134,ntmps134;go_wp2_with fail;refine (isNaN_calls a w).mono ?_;rintro e w1 ⟨rfl,rfl⟩;go_wp2_with fail;refine (isNaN_calls b w).mono ?_;rintro e w1 ⟨rfl,rfl⟩;go_wp2;go_ret;exact ⟨by rw [HV.o];rfl,rfl⟩
 ·
  rw [dF l1] at h1;by_cases l2:a = b
  ·
   rw [dT l2] at h2;have HV:Hid (SortP.cmpL a b = 0):=Zz ((SortP.cmpL_zero a b).2 l2);clear l1 l2 HC;go_enter func134,ntmps134;go_wp2_with fail;refine (isNaN_calls a w).mono ?_;rintro e w1 ⟨rfl,rfl⟩;go_wp2_with fail;refine (isNaN_calls b w).mono ?_;rintro e w1 ⟨rfl,rfl⟩;go_wp2;go_ret;exact ⟨by rw [HV.o];rfl,rfl⟩
  ·
   rw [dF l2] at h2;have HV:Hid (SortP.cmpL a b = 1):=Zz (by
    rcases SortP.cmpL_three a b with h | h | h
    ·
     exact absurd ((SortP.cmpL_neg a b).1 (by rw [h];decide)) l1
    ·
     exact absurd ((SortP.cmpL_zero a b).1 h) l2
    ·
     exact h)
   clear l1 l2 HC;go_enter func134,ntmps134;go_wp2_with fail;refine (isNaN_calls a w).mono ?_;rintro e w1 ⟨rfl,rfl⟩;go_wp2_with fail;refine (isNaN_calls b w).mono ?_;rintro e w1 ⟨rfl,rfl⟩;go_wp2;go_ret;exact ⟨by rw [HV.o];rfl,rfl⟩
def SmallM (t:Term):Prop:=t.text.length <= 1099511627776/\t.extra.length <= 1099511627776
theorem box2 (w:World) (k:Int) (x ex:List UInt8) (k':Int) (x' ex':List UInt8) (p:QT.Bel ((w.alloc (.cells #[.int .i64 k,.string (mkS x),.string (mkS ex)] 24)).alloc (.cells #[.int .i64 k',.string (mkS x'),.string (mkS ex')] 24))) :
  (p.w.cell? ⟨w.heap.size,0,none⟩ = some (.int .i64 k)/\p.w.cell? ⟨w.heap.size,1,none⟩ = some (.string (mkS x))/\p.w.cell? ⟨w.heap.size,2,none⟩ = some (.string (mkS ex))) /\
  (p.w.cell? ⟨w.heap.size + 1,0,none⟩ = some (.int .i64 k')/\p.w.cell? ⟨w.heap.size + 1,1,none⟩ = some (.string (mkS x'))/\p.w.cell? ⟨w.heap.size + 1,2,none⟩ = some (.string (mkS ex'))):=by
 have ht:=(Tc.TC.new w ⟨k,x,ex⟩).alloc (.cells #[.int .i64 k',.string (mkS x'),.string (mkS ex')] 24);have ht':=Tc.TC.new (w.alloc (.cells #[.int .i64 k,.string (mkS x),.string (mkS ex)] 24)) ⟨k',x',ex'⟩;rw [show (w.alloc (.cells #[.int .i64 k,.string (mkS x),.string (mkS ex)] 24)).heap.size = w.heap.size + 1 by simp] at ht';exact ⟨⟨p.cell ht.c0,p.cell ht.c1,p.cell ht.c2⟩,p.cell ht'.c0,p.cell ht'.c1,p.cell ht'.c2⟩
theorem termCmp_calls (a b:Term) (ha:SmallM a) (hb:SmallM b) (w:World):Calls Tryz.prog 89 #[Ref5.termV a,Ref5.termV b] w fun e w'=>e = .returned (.int .i64 (cmpTm a b))/\Below w.heap.size w w':=by
 obtain ⟨k,x,ex⟩:=a;obtain ⟨k',x',ex'⟩:=b;have H1:=Zz (fun w=>Show.show_calls ⟨k,x,ex⟩ (Zh ha.1 (by decide)) (Zh ha.2 (by decide)) w);have H2:=Zz (fun w=>Show.show_calls ⟨k',x',ex'⟩ (Zh hb.1 (by decide)) (Zh hb.2 (by decide)) w);have H3:=Zz (fun w=>(compare_calls (shown ⟨k,x,ex⟩) (shown ⟨k',x',ex'⟩) w).mono (fun e w' (h:e = .returned (.int .i64 (SortP.cmpL (shown ⟨k,x,ex⟩) (shown ⟨k',x',ex'⟩)))/\w = w')=>(⟨h.1,by rw [h.2];exact bR _ _⟩:e = .returned (.int .i64 (SortP.cmpL (shown ⟨k,x,ex⟩) (shown ⟨k',x',ex'⟩)))/\Below w.heap.size w w')));have HV:Hid (cmpTm ⟨k,x,ex⟩ ⟨k',x',ex'⟩ = SortP.cmpL (shown ⟨k,x,ex⟩) (shown ⟨k',x',ex'⟩)):=Zz rfl;generalize shown ⟨k,x,ex⟩ = S1 at *;generalize shown ⟨k',x',ex'⟩ = S2 at *;have HX:=Zz (fun p=>box2 w k x ex k' x' ex' p);have HBe:=Zz (bel_alloc (bel_alloc (bR w.heap.size w) (.cells #[.int .i64 k,.string (mkS x),.string (mkS ex)] 24)) (.cells #[.int .i64 k',.string (mkS x'),.string (mkS ex')] 24));have a0:=fun p=>(HX.o p).1.1
 have a1:=fun p=>(HX.o p).1.2.1
 have a2:=fun p=>(HX.o p).1.2.2
 have b0:=fun p=>(HX.o p).2.1
 have b1:=fun p=>(HX.o p).2.2.1
 have b2:=fun p=>(HX.o p).2.2.2
 unfold Ref5.termV;dsimp only;clear ha hb;go_enter func89,ntmps89;go_upto_region 1 with fail
 refine QT.region_all (by kernel_rfl) (by kernel_rfl) ?_
 iterate 1 (go_big_quiet_step (fail))
 go_big_quiet_step (exact QT.Bel.call _ (H1.o _))
 iterate 1 (go_big_quiet_step (fail))
 go_big_quiet_step (exact QT.Bel.call _ (H2.o _))
 go_big_quiet_step (exact QT.Bel.call _ (H3.o _))
 repeat (go_big_quiet_step (fail))
 refine wpQuiet_nil ?_;intro w2 hw';obtain ⟨⟨_,hb⟩,rfl⟩:=hw';have HB:=Zz (bel_step HBe.o hb);clear hb a0 a1 a2 b0 b1 b2;go_wp2;go_ret;exact ⟨by rw [HV.o];rfl,HB.o⟩
theorem or_calls (x y z:Int) (g:Nat) (w:World) (c0:w.cell? ⟨g,0,none⟩ = some (.int .i64 x)) (c1:w.cell? ⟨g,1,none⟩ = some (.int .i64 y)) (c2:w.cell? ⟨g,2,none⟩ = some (.int .i64 z)) :
  Calls Tryz.prog 153 #[.slice (some ⟨g,0,none⟩) 3 3] w fun e w'=>e = .returned (.int .i64 (orI x y z))/\w = w':=by
 go_enter func153,ntmps153;go_wp2;go_loopw [5,8] (fun v5 vi wr=>∃ k:Nat,k <= 3/\vi = .int .i64 k/\wr = w/\(1 <= k -> x = 0)/\(2 <= k -> y = 0)/\(3 <= k -> z = 0)) (fun _ vi _=>3 - (intOf vi).toNat)
 case atStart=>exact ⟨0,by omega,by first | rfl | trivial,by first | rfl | trivial,fun h=>absurd h (by omega),fun h=>absurd h (by omega),fun h=>absurd h (by omega)⟩
 case round =>
  obtain ⟨k,hk,rfl,rfl,h1,h2,h3⟩:=hrel;have hk4:k = 0 \/ k = 1 \/ k = 2 \/ k = 3:=by omega
  rcases hk4 with rfl | rfl | rfl | rfl
  ·
   clear h1 h2 h3;by_cases h:x = 0
   ·
    have hn:(x != 0) = false:=by simp [h]
    have HZ:=Zz h;clear h;go_wp2;go_roundw
    case rel=>exact ⟨1,by omega,by first | rfl | trivial,by first | rfl | trivial,fun _=>HZ.o,fun h=>absurd h (by omega),fun h=>absurd h (by omega)⟩
    case measure=>simp [intOf]
   ·
    have hn:(x != 0) = true:=by simp [h]
    have HV:Hid (orI x y z = x):=Zz (by unfold orI;rw [if_pos h]);clear h;go_wp2;go_ret;exact ⟨by rw [HV.o];rfl,rfl⟩
  ·
   have H1:=Zz (h1 (by omega));clear h1 h2 h3;by_cases h:y = 0
   ·
    have hn:(y != 0) = false:=by simp [h]
    have HZ:=Zz h;clear h;go_wp2;go_roundw
    case rel=>exact ⟨2,by omega,by first | rfl | trivial,by first | rfl | trivial,fun _=>H1.o,fun _=>HZ.o,fun h=>absurd h (by omega)⟩
    case measure=>simp [intOf]
   ·
    have hn:(y != 0) = true:=by simp [h]
    have HV:Hid (orI x y z = y):=Zz (by unfold orI;rw [if_neg (by simp [H1.o]),if_pos h]);clear h;go_wp2;go_ret;exact ⟨by rw [HV.o];rfl,rfl⟩
  ·
   have H1:=Zz (h1 (by omega));have H2:=Zz (h2 (by omega));clear h1 h2 h3;by_cases h:z = 0
   ·
    have hn:(z != 0) = false:=by simp [h]
    have HZ:=Zz h;clear h;go_wp2;go_roundw
    case rel=>exact ⟨3,by omega,by first | rfl | trivial,by first | rfl | trivial,fun _=>H1.o,fun _=>H2.o,fun _=>HZ.o⟩
    case measure=>simp [intOf]
   ·
    have hn:(z != 0) = true:=by simp [h]
    have HV:Hid (orI x y z = z):=Zz (by unfold orI;rw [if_neg (by simp [H1.o]),if_neg (by simp [H2.o])]);clear h;go_wp2;go_ret;exact ⟨by rw [HV.o];rfl,rfl⟩
  ·
   have HV:Hid (orI x y z = 0):=Zz (by unfold orI;rw [if_neg (by simp [h1 (by omega)]),if_neg (by simp [h2 (by omega)]),h3 (by omega)]);clear h1 h2 h3;go_wp2;go_ret;exact ⟨by rw [HV.o];rfl,rfl⟩
theorem box18 (w:World) (a b:Triple) (p:QT.Bel ((w.alloc (.cells #[.int .i64 a.s.kind,.string (mkS a.s.text),.string (mkS a.s.extra),.int .i64 a.p.kind,.string (mkS a.p.text),.string (mkS a.p.extra),.int .i64 a.o.kind,.string (mkS a.o.text),.string (mkS a.o.extra)] 36)).alloc (.cells #[.int .i64 b.s.kind,.string (mkS b.s.text),.string (mkS b.s.extra),.int .i64 b.p.kind,.string (mkS b.p.text),.string (mkS b.p.extra),.int .i64 b.o.kind,.string (mkS b.o.text),.string (mkS b.o.extra)] 36))) :
  (p.w.cell? ⟨w.heap.size,0,none⟩ = some (.int .i64 a.s.kind)/\p.w.cell? ⟨w.heap.size,1,none⟩ = some (.string (mkS a.s.text))/\p.w.cell? ⟨w.heap.size,2,none⟩ = some (.string (mkS a.s.extra))/\p.w.cell? ⟨w.heap.size,3,none⟩ = some (.int .i64 a.p.kind)/\p.w.cell? ⟨w.heap.size,4,none⟩ = some (.string (mkS a.p.text))/\p.w.cell? ⟨w.heap.size,5,none⟩ = some (.string (mkS a.p.extra))/\p.w.cell? ⟨w.heap.size,6,none⟩ = some (.int .i64 a.o.kind)/\p.w.cell? ⟨w.heap.size,7,none⟩ = some (.string (mkS a.o.text))/\p.w.cell? ⟨w.heap.size,8,none⟩ = some (.string (mkS a.o.extra))) /\
  (p.w.cell? ⟨w.heap.size + 1,0,none⟩ = some (.int .i64 b.s.kind)/\p.w.cell? ⟨w.heap.size + 1,1,none⟩ = some (.string (mkS b.s.text))/\p.w.cell? ⟨w.heap.size + 1,2,none⟩ = some (.string (mkS b.s.extra))/\p.w.cell? ⟨w.heap.size + 1,3,none⟩ = some (.int .i64 b.p.kind)/\p.w.cell? ⟨w.heap.size + 1,4,none⟩ = some (.string (mkS b.p.text))/\p.w.cell? ⟨w.heap.size + 1,5,none⟩ = some (.string (mkS b.p.extra))/\p.w.cell? ⟨w.heap.size + 1,6,none⟩ = some (.int .i64 b.o.kind)/\p.w.cell? ⟨w.heap.size + 1,7,none⟩ = some (.string (mkS b.o.text))/\p.w.cell? ⟨w.heap.size + 1,8,none⟩ = some (.string (mkS b.o.extra))):=by
 have ht:=(Ref5.T9.new w a).alloc (.cells #[.int .i64 b.s.kind,.string (mkS b.s.text),.string (mkS b.s.extra),.int .i64 b.p.kind,.string (mkS b.p.text),.string (mkS b.p.extra),.int .i64 b.o.kind,.string (mkS b.o.text),.string (mkS b.o.extra)] 36);have ht':=Ref5.T9.new (w.alloc (.cells #[.int .i64 a.s.kind,.string (mkS a.s.text),.string (mkS a.s.extra),.int .i64 a.p.kind,.string (mkS a.p.text),.string (mkS a.p.extra),.int .i64 a.o.kind,.string (mkS a.o.text),.string (mkS a.o.extra)] 36)) b;rw [show (w.alloc (.cells #[.int .i64 a.s.kind,.string (mkS a.s.text),.string (mkS a.s.extra),.int .i64 a.p.kind,.string (mkS a.p.text),.string (mkS a.p.extra),.int .i64 a.o.kind,.string (mkS a.o.text),.string (mkS a.o.extra)] 36)).heap.size = w.heap.size + 1 by simp] at ht';exact ⟨⟨p.cell ht.s.c0,p.cell ht.s.c1,p.cell ht.s.c2,p.cell ht.p.c0,p.cell ht.p.c1,p.cell ht.p.c2,p.cell ht.o.c0,p.cell ht.o.c1,p.cell ht.o.c2⟩,p.cell ht'.s.c0,p.cell ht'.s.c1,p.cell ht'.s.c2,p.cell ht'.p.c0,p.cell ht'.p.c1,p.cell ht'.p.c2,p.cell ht'.o.c0,p.cell ht'.o.c1,p.cell ht'.o.c2⟩
theorem cmp_calls (a b:Triple) (ha:SmallT a) (hb:SmallT b) (w:World):Calls Tryz.prog 119 #[Ref5.tripleV a,Ref5.tripleV b] w fun e w'=>e = .returned (.int .i64 (cmpT a b))/\Below w.heap.size w w':=by
 have HX:=Zz (fun p=>box18 w a b p);have H1:=Zz (fun w=>termCmp_calls a.s b.s ha.1 hb.1 w);have H2:=Zz (fun w=>termCmp_calls a.p b.p ha.2.1 hb.2.1 w);have H3:=Zz (fun w=>termCmp_calls a.o b.o ha.2.2 hb.2.2 w);have HV:Hid (cmpT a b = orI (cmpTm a.s b.s) (cmpTm a.p b.p) (cmpTm a.o b.o)):=Zz rfl;have HBe:=Zz (bel_alloc (bel_alloc (bR w.heap.size w) (.cells #[.int .i64 a.s.kind,.string (mkS a.s.text),.string (mkS a.s.extra),.int .i64 a.p.kind,.string (mkS a.p.text),.string (mkS a.p.extra),.int .i64 a.o.kind,.string (mkS a.o.text),.string (mkS a.o.extra)] 36)) (.cells #[.int .i64 b.s.kind,.string (mkS b.s.text),.string (mkS b.s.extra),.int .i64 b.p.kind,.string (mkS b.p.text),.string (mkS b.p.extra),.int .i64 b.o.kind,.string (mkS b.o.text),.string (mkS b.o.extra)] 36));generalize cmpTm a.s b.s = v1 at *;generalize cmpTm a.p b.p = v2 at *;generalize cmpTm a.o b.o = v3 at *;obtain ⟨⟨sk,sx,se⟩,⟨pk,px,pe⟩,⟨ok,ox,oe⟩⟩:=a;obtain ⟨⟨sk',sx',se'⟩,⟨pk',px',pe'⟩,⟨ok',ox',oe'⟩⟩:=b;unfold Ref5.tripleV;dsimp only;clear ha hb;have a0:=fun p=>(HX.o p).1.1
 have a1:=fun p=>(HX.o p).1.2.1
 have a2:=fun p=>(HX.o p).1.2.2.1
 have a3:=fun p=>(HX.o p).1.2.2.2.1
 have a4:=fun p=>(HX.o p).1.2.2.2.2.1
 have a5:=fun p=>(HX.o p).1.2.2.2.2.2.1
 have a6:=fun p=>(HX.o p).1.2.2.2.2.2.2.1
 have a7:=fun p=>(HX.o p).1.2.2.2.2.2.2.2.1
 have a8:=fun p=>(HX.o p).1.2.2.2.2.2.2.2.2
 have b0:=fun p=>(HX.o p).2.1
 have b1:=fun p=>(HX.o p).2.2.1
 have b2:=fun p=>(HX.o p).2.2.2.1
 have b3:=fun p=>(HX.o p).2.2.2.2.1
 have b4:=fun p=>(HX.o p).2.2.2.2.2.1
 have b5:=fun p=>(HX.o p).2.2.2.2.2.2.1
 have b6:=fun p=>(HX.o p).2.2.2.2.2.2.2.1
 have b7:=fun p=>(HX.o p).2.2.2.2.2.2.2.2.1
 have b8:=fun p=>(HX.o p).2.2.2.2.2.2.2.2.2
 dsimp only at a0 a1 a2 a3 a4 a5 a6 a7 a8 b0 b1 b2 b3 b4 b5 b6 b7 b8;go_enter func119,ntmps119;go_upto_region 1 with fail
 refine QT.region_bel 15 (by kernel_rfl) (by kernel_rfl) ?_;simp only [List.take_succ_cons,List.take_zero,List.drop_succ_cons,List.drop_zero]
 iterate 4 (go_big_quiet_step (fail))
 go_big_quiet_step (exact QT.Bel.call _ (H1.o _))
 iterate 4 (go_big_quiet_step (fail))
 go_big_quiet_step (exact QT.Bel.call _ (H2.o _))
 iterate 4 (go_big_quiet_step (fail))
 go_big_quiet_step (exact QT.Bel.call _ (H3.o _))
 refine wpQuiet_nil ?_;intro w2 hw';obtain ⟨⟨_,hb⟩,rfl⟩:=hw';have HB:=Zz (bel_alloc (bel_step HBe.o hb) (.cells #[.int .i64 v1,.int .i64 v2,.int .i64 v3] 3));clear hb a0 a1 a2 a3 a4 a5 a6 a7 a8 b0 b1 b2 b3 b4 b5 b6 b7 b8;go_wp2_with fail;refine (or_calls v1 v2 v3 _ _ (by unfold World.cell?;dsimp only;rw [Kd.heap_new];rfl) (by unfold World.cell?;dsimp only;rw [Kd.heap_new];rfl) (by unfold World.cell?;dsimp only;rw [Kd.heap_new];rfl)).mono ?_;rintro e w3 ⟨rfl,rfl⟩;go_wp2;go_ret;exact ⟨by rw [HV.o];rfl,HB.o⟩
end Cmp
set_option linter.unusedSectionVars false
namespace TermW
open Go.RowKit Go.Lib B Rd TermPure LinesPure Tri OrdG
structure C3 (w:World) (g o:Nat) (t:Term):Prop where
 c0:w.cell? ⟨g,o,none⟩ = some (.int .i64 t.kind)
 c1:w.cell? ⟨g,o + 1,none⟩ = some (.string (mkS t.text))
 c2:w.cell? ⟨g,o + 2,none⟩ = some (.string (mkS t.extra))
theorem C3.of {w:World} {g o:Nat} {t:Term} (h:∀ j u,(termL t)[j]? = some u -> w.cell? ⟨g,o + j,none⟩ = some u):C3 w g o t:=⟨h 0 _ rfl,h 1 _ rfl,h 2 _ rfl⟩
theorem C3.lt {w:World} {g o:Nat} {t:Term} (h:C3 w g o t):g < w.heap.size:=World.block_lt_of_cell? w ⟨g,o,none⟩ h.c0
theorem C3.moved {w w':World} {g o:Nat} {t:Term} (h:C3 w g o t) (hm:w'.heap[g]? = w.heap[g]?):C3 w' g o t:=
 have k:∀ {i v},w.cell? ⟨g,i,none⟩ = some v -> w'.cell? ⟨g,i,none⟩ = some v:=fun {i v} hc=>(World.cell?_of_block (a:=⟨g,i,none⟩) hm).trans hc
 ⟨k h.c0,k h.c1,k h.c2⟩
theorem C3.below {w w':World} {g o:Nat} {t:Term} (h:C3 w g o t) (hb:Below w.heap.size w w'):C3 w' g o t:=h.moved (hb.block g h.lt)
theorem C3.bel {w:World} {g o:Nat} {t:Term} (h:C3 w g o t) (p:QT.Bel w):C3 p.w g o t:=⟨p.cell h.c0,p.cell h.c1,p.cell h.c2⟩
def put3 (w:World) (g o:Nat) (t:Term):World:=((w.setCell ⟨g,o,none⟩ (.int .i64 t.kind)).setCell ⟨g,o + 1,none⟩ (.string (mkS t.text))).setCell ⟨g,o + 2,none⟩ (.string (mkS t.extra))
theorem some_set {w:World} {a b:Addr} {v:Value} (h:(w.cell? a).isSome = true):((w.setCell b v).cell? a).isSome = true:=by
 by_cases e:b = a
 ·
  subst e;rw [World.cell?_setCell_same' _ _ _ h]
  try rfl
 ·
  first
   | (rw [Zo _ _ _ _ (fun h=>e h)];exact h)
   | (rw [Zo _ _ _ _ (fun h=>e h.symm)];exact h)
theorem same_of {w:World} {a:Addr} {v:Value} (h:(w.cell? a).isSome = true):(w.setCell a v).cell? a = some v:=World.cell?_setCell_same' _ _ _ h
theorem put3_other (w:World) (g o:Nat) (t:Term) (j:Nat) (h:j < o \/ o + 3 <= j):(put3 w g o t).cell? ⟨g,j,none⟩ = w.cell? ⟨g,j,none⟩:=by
 unfold put3
 iterate 3 rw [Zo _ _ _ _ (by simp;try omega)]
theorem put3_frozen (w:World) (g o:Nat) (t:Term) (a:Addr):(put3 w g o t).frozen? a = w.frozen? a:=by
 unfold put3
 iterate 3 rw [World.frozen?_setCell]
theorem set_grown {w0 w:World} {g:Nat} (h:w0.grownBy w (some g)) (j:Nat) (v:Value):w0.grownBy (w.setCell ⟨g,j,none⟩ v) (some g):=h.trans (grown_setCell w ⟨g,j,none⟩ v)
theorem put3_grown (w:World) (g o:Nat) (t:Term):w.grownBy (put3 w g o t) (some g):=by
 unfold put3
 iterate 3 refine set_grown ?_ _ _
 exact World.grownBy.refl _ _
theorem put3_same {w:World} {g o:Nat} {t0:Term} (h:C3 w g o t0) (t:Term):C3 (put3 w g o t) g o t:=by
 have s0:(w.cell? ⟨g,o,none⟩).isSome = true:=by rw [h.c0];rfl
 have s1:(w.cell? ⟨g,o + 1,none⟩).isSome = true:=by rw [h.c1];rfl
 have s2:(w.cell? ⟨g,o + 2,none⟩).isSome = true:=by rw [h.c2];rfl
 unfold put3;constructor
 ·
  iterate 2 rw [Zo _ _ _ _ (by simp)]
  exact same_of s0
 ·
  iterate 1 rw [Zo _ _ _ _ (by simp)]
  exact same_of (some_set s1)
 ·
  exact same_of (some_set (some_set s2))
structure SR (W:World) (g:Nat) (l:List Term) (w:World):Prop where
 grown:W.grownBy w (some g)
 cells:∀ i (h:i < l.length),C3 w g (i * 3) l[i]
 free:∀ j,j < l.length * 3 -> w.frozen? ⟨g,j,none⟩ = false
theorem SR.drewN {W w:World} {g:Nat} {l:List Term} (h:SR W g l w) (n:Nat):SR W g l (w.drewN n):=
 ⟨⟨h.grown.os,h.grown.tape,h.grown.output,h.grown.size,h.grown.block⟩,fun i hi=>(h.cells i hi).moved rfl,h.free⟩
theorem SR.at {W w:World} {g:Nat} {l:List Term} (h:SR W g l w) {q:Nat} {x:Term} (hx:l[q]? = some x):C3 w g (q * 3) x:=by
 obtain ⟨hi,rfl⟩:=List.getElem?_eq_some_iff.1 hx;exact h.cells q hi
theorem SR.set {W w:World} {g:Nat} {l:List Term} (h:SR W g l w) (i:Nat) (hi:i < l.length) (x:Term):SR W g (l.set i x) (put3 w g (i * 3) x):=by
 refine ⟨h.grown.trans (put3_grown _ _ _ _),fun k hk=>?_,fun q hq=>?_⟩
 ·
  have hk':k < l.length:=by rw [List.length_set] at hk;exact hk
  by_cases e:k = i
  ·
   subst e;rw [List.getElem_set_self];exact put3_same (h.cells k hk') _
  ·
   rw [List.getElem_set_ne (fun h=>e h.symm)];have hc:=h.cells k hk';have far:∀ d,d < 3 -> (k * 3 + d < i * 3 \/ i * 3 + 3 <= k * 3 + d):=fun d hd=>by omega
   exact ⟨(put3_other _ _ _ _ _ (far 0 (by omega))).trans hc.c0,(put3_other _ _ _ _ _ (far 1 (by omega))).trans hc.c1,(put3_other _ _ _ _ _ (far 2 (by omega))).trans hc.c2⟩
 ·
  rw [put3_frozen];rw [List.length_set] at hq;exact h.free q hq
theorem SR.of_own {w:World} {base:Nat} {ok:Nat -> Prop} {v:Value} {l:List Term} (h:termK.own 24 w base ok v l) (hp:0 < l.length) :
  ∃ g cap,v = .slice (some ⟨g,0,none⟩) l.length cap/\base <= g/\g < w.heap.size/\l.length <= cap/\cap <= maxLen/\SR w g l w:=by
 obtain ⟨_,cells,ho,hr⟩:=h;have ho':=ho;rcases ho'.2 with ⟨_,h0⟩ | ⟨g,cap,cur,rfl,hg,hh,hnc,hcm,hcs,htake⟩
 ·
  omega
 ·
  have hlt:g < w.heap.size:=(Array.getElem?_eq_some_iff.1 hh).1;refine ⟨g,cap,rfl,hg,hlt,hnc,hcm,World.grownBy.refl _ _,fun i hi=>?_,fun j hj=>?_⟩
  ·
   obtain ⟨hc,_⟩:=hr i l[i] (Zg hi);refine C3.of fun j u hu=>?_
   rw [<- hc] at hu;have:=ho.cells rfl _ _ (Kd.take_drop_get hu);rw [add_plain] at this;exact this
  ·
   unfold World.frozen?;dsimp only;rw [hh];simp
theorem SR.own {W w:World} {g cap:Nat} {l:List Term} (h:SR W g l w) (hf:∀ t ∈ l,FitsW t) (hl:l.length <= 140737488355328) (hc:l.length <= cap) (hcm:cap <= maxLen) (ok:Nat -> Prop) (hok:ok g) :
  termK.sl.M w ok l [.slice (some ⟨g,0,none⟩) l.length cap]:=by
 refine ⟨some ⟨g,0,none⟩,cap,rfl,hc,⟨hl,hcm⟩,fun h=>(by cases h),fun i x hx=>?_⟩;obtain ⟨hi,rfl⟩:=List.getElem?_eq_some_iff.1 hx;refine ⟨_,termL l[i],rfl,hok,⟨rfl,hf _ (Zm hi)⟩,fun j u hu=>?_⟩;rw [add_plain];obtain ⟨c0,c1,c2⟩:=h.cells i hi;have hj:j < 3:=(List.getElem?_eq_some_iff.1 hu).1
 match j,hj with
 | 0,_=>cases hu;exact c0
 | 1,_=>cases hu;exact c1
 | 2,_=>cases hu;exact c2
section
variable {α : Type} [DecidableEq α]
theorem compE_snoc:∀ (l:List α) (x y:α),compactE (l ++ [x] ++ [y]) = if x = y then compactE (l ++ [x]) else compactE (l ++ [x]) ++ [y]
 | [],x,y=>by by_cases h:x = y <;> simp [compactE,h]
 | [z],x,y=>by
  show compactE [z,x,y] = if x = y then compactE [z,x] else compactE [z,x] ++ [y]
  simp only [compactE]
  by_cases h1:z = x <;> by_cases h2:x = y <;> simp [h1,h2]
 | z :: z' :: l,x,y=>by
  have ih:=compE_snoc (z' :: l) x y
  simp only [List.cons_append] at ih |-
  rw [compactE,compactE,ih]
  by_cases h1:z = z' <;> by_cases h2:x = y <;> simp [h1,h2]
theorem compE_take (R:List α) (j:Nat) (h1:1 <= j) (hj:j < R.length):compactE (R.take (j + 1)) = compactE (R.take j) ++ (if R[j] = R[j - 1]'(by omega) then [] else [R[j]]):=by
 obtain ⟨i,rfl⟩:∃ i,j = i + 1:=⟨j - 1,by omega⟩;rw [Zt hj,Zt (by omega),compE_snoc];show (if R[i] = R[i + 1] then _ else _) = _ ++ (if R[i + 1] = R[i] then _ else _);by_cases h:R[i] = R[i + 1]
 ·
  rw [if_pos h,if_pos h.symm,Ze]
 ·
  rw [if_neg h,if_neg (fun e=>h e.symm)]
theorem compE_one (R:List α) (h:0 < R.length):compactE (R.take 1) = R.take 1:=by
 cases R with
 | nil=>simp at h
 | cons x l=>simp [compactE]
theorem compE_same (R:List α):∀ j,1 <= j -> j <= R.length -> (∀ i (h:i < R.length),1 <= i -> i < j -> R[i] ≠ (R[i - 1]'(by omega))) -> compactE (R.take j) = R.take j
 | 0,h,_,_=>by omega
 | 1,_,h,_=>compE_one R (by omega)
 | j + 2,_,h,hne=>by
  rw [compE_take R (j + 1) (by omega) (by omega),compE_same R (j + 1) (by omega) (by omega) (fun i hi h1 h2=>hne i hi h1 (by omega)),if_neg (hne (j + 1) (by omega) (by omega) (by omega))]
  exact (Zt (by omega)).symm
theorem compE_len (R:List α):∀ j,j <= R.length -> (compactE (R.take j)).length <= j
 | 0,_=>by simp [compactE]
 | 1,h=>by rw [compE_one R (by omega),Zi];omega
 | j + 2,h=>by
  have:=compE_len R (j + 1) (by omega)
  rw [compE_take R (j + 1) (by omega) (by omega),Zl]
  split <;> simp <;> omega
structure CI (R l':List α) (L k j:Nat):Prop where
 len:l'.length = L
 head:l'.take k = compactE (R.take j)
 tail:∀ q,k <= q -> l'[q]? = R[q]?
theorem CI.start {R:List α} {L k:Nat} (hL:R.length = L) (h1:1 <= k) (hk:k < L) (hne:∀ i (h:i < R.length),1 <= i -> i < k -> R[i] ≠ (R[i - 1]'(by omega))) (he:R[k]'(by omega) = R[k - 1]'(by omega)):CI R R L k (k + 1):=
 ⟨hL,by rw [compE_take R k h1 (by omega),if_pos he,Ze,compE_same R k h1 (by omega) hne],fun q _=>rfl⟩
theorem CI.same {R l':List α} {L k j:Nat} (h:CI R l' L k j) (hL:R.length = L) (h1:1 <= j) (hj:j < L) (he:R[j]'(by omega) = R[j - 1]'(by omega)):CI R l' L k (j + 1):=
 ⟨h.len,by rw [compE_take R j h1 (by omega),if_pos he,Ze];exact h.head,h.tail⟩
theorem take_set_lt (l:List α) (k:Nat) (x:α) (hk:k < l.length):(l.set k x).take (k + 1) = l.take k ++ [x]:=by
 rw [Zt (by simpa using hk),List.getElem_set_self,List.take_set_of_le (lR k)]
theorem CI.put {R l':List α} {L k j:Nat} (h:CI R l' L k j) (hL:R.length = L) (h1:1 <= j) (hj:j < L) (hk:k < L) (he:¬ R[j]'(by omega) = R[j - 1]'(by omega)):CI R (l'.set k (R[j]'(by omega))) L (k + 1) (j + 1):=
 ⟨by rw [List.length_set];exact h.len,by rw [compE_take R j h1 (by omega),if_neg he,take_set_lt _ _ _ (by rw [h.len];exact hk),h.head],fun q hq=>by
  rw [List.getElem?_set_ne (by omega)];exact h.tail q (by omega)⟩
end
theorem idOf_at {l:List Term} (hr:l.Pairwise ltTm) {i:Nat} (h:i < l.length) {t:Term} (ht:l[i] = t):idOf l t = i + 1:=by
 have hm:t ∈ l:=by rw [<- ht];exact Zm h
 have hi:=List.idxOf_lt_length_of_mem hm;unfold idOf;rw [if_pos hm];have e:l[l.idxOf t] = l[i]:=(List.getElem_idxOf hi).trans ht.symm;have h1:¬ l.idxOf t < i:=fun hlt=>by
  have:=List.pairwise_iff_getElem.1 hr _ _ hi h hlt;rw [e] at this;exact List.lt_irrefl _ this
 have h2:¬ i < l.idxOf t:=fun hlt=>by
  have:=List.pairwise_iff_getElem.1 hr _ _ h hi hlt;rw [e] at this;exact List.lt_irrefl _ this
 omega
def Ends (l:List Term) (t:Term) (i:Nat):Prop:=i <= l.length/\(∀ j (h:j < l.length),j < i -> ltTm l[j] t)/\∀ j (h:j < l.length),i <= j -> ¬ ltTm l[j] t
theorem Ends.mem {l:List Term} {t:Term} {i:Nat} (h:Ends l t i) (hr:l.Pairwise ltTm) (hm:t ∈ l):∃ h:i < l.length,l[i] = t:=by
 obtain ⟨q,hq,hqt⟩:=List.mem_iff_getElem.1 hm;obtain ⟨h1,h2,h3⟩:=h;have hiq:i <= q:=by
  by_cases hlt:q < i
  ·
   have:=h2 q hq hlt;rw [hqt] at this;exact absurd this (List.lt_irrefl _)
  ·
   omega
 have hi:i < l.length:=by omega
 refine ⟨hi,?_⟩;by_cases e:i = q
 ·
  subst e;exact hqt
 ·
  have:=List.pairwise_iff_getElem.1 hr i q hi hq (by omega);rw [hqt] at this;exact absurd this (h3 i hi (lR _))
theorem Ends.idOf {l:List Term} {t:Term} {i:Nat} (h:Ends l t i) (hr:l.Pairwise ltTm) (hne:∀ h:i < l.length,l[i] ≠ t):idOf l t = 0:=by
 unfold OrdG.idOf;rw [if_neg (fun hm=>by obtain ⟨h1,h2⟩:=h.mem hr hm;exact hne h1 h2)]
end TermW
namespace SortT
open Go Go.RowKit Go.Sort Go.Shelf Go.Lib Go.Proofs B Rd TermPure LinesPure Tri SortP OrdG SortRow
theorem chunks {α:Type} {enc:α -> List Value} {k:Nat} (hk:∀ x,(enc x).length = k) (hp:0 < k) {cells:List Value} {l:List α} (hl:cells.length = l.length * k) (h:∀ i x,l[i]? = some x -> (cells.drop (i * k)).take k = enc x):cells = l.flatMap enc:=by
 apply List.ext_getElem?;intro t;by_cases ht:t < l.length * k
 ·
  have h1:t / k < l.length:=Nat.div_lt_of_lt_mul (by rwa [Nat.mul_comm]);have h2:t % k < k:=Nat.mod_lt _ hp;have h3:=flatMap_get hk l (t / k) (t % k) l[t / k] (Zg h1) h2;have h4:=h (t / k) l[t / k] (Zg h1);rw [<- h4,List.getElem?_take,if_pos h2,List.getElem?_drop,Nat.mul_comm,Nat.div_add_mod] at h3;exact h3.symm
 ·
  rw [List.getElem?_eq_none (by omega),List.getElem?_eq_none (by rw [flatMap_len hk];omega)]
theorem chunk_of {α:Type} {enc:α -> List Value} {k:Nat} (hk:∀ x,(enc x).length = k) {l:List α} {i:Nat} {x:α} (hx:l[i]? = some x):((l.flatMap enc).drop (i * k)).take k = enc x:=by
 apply List.ext_getElem?;intro j;rw [List.getElem?_take];by_cases hj:j < k
 ·
  rw [if_pos hj,List.getElem?_drop,flatMap_get hk l i j x hx hj]
 ·
  rw [if_neg hj,List.getElem?_eq_none (by rw [hk];omega)]
theorem sorted_own {β:Type} [DecidableEq β] {enc:β -> List Value} {fits S:β -> Prop} {k:Nat} (hk:∀ x,(enc x).length = k) (hp:0 < k) (h1:∀ x,∀ u ∈ enc x,u.oneCell' = true) (z:β) (hz:S z)
  {P:Program} {ρ:Ren} {e:TypeId} {f:FuncId} {cf:β -> β -> Int} (eg:∀ args w,(callFunc f args).run P w = .ok (.enter f args) w) (aE:∀ w,(isAgg (ρ.t 24)).run P w = .ok true w) (zE:∀ w,(Go.sizeOf (ρ.t 24)).run P w = .ok k w)
  (L:SlLaysF0.n6 P ρ) (hO:SWO fun x y:{ t:β // S t }=>decide (cf x.1 y.1 < 0)) (hc:∀ (x y:β) (w:World),S x -> S y -> Calls P f #[.agg (enc x).toArray,.agg (enc y).toArray] w fun e w'=>e = .returned (.int .i64 (cf x y))/\Below w.heap.size w w')
  {l:List β} (hs:∀ t ∈ l,S t) {g cap base:Nat} {ok:Nat -> Prop} {w:World} (ho:(held k hp enc fits hk h1).own e w base ok (.slice (some ⟨g,0,none⟩) l.length cap) l) :
  Calls P (ρ.f 6) #[.slice (some ⟨g,0,none⟩) l.length cap,.func (.func f) #[] #[]] w fun en w'=>en = .returned (.tuple #[])/\∃ l':List β,l'.Perm l/\l'.Pairwise (fun a b=>¬ cf b a < 0)/\(held k hp enc fits hk h1).own e w' base ok (.slice (some ⟨g,0,none⟩) l'.length cap) l'/\w.grownBy w' (some g):=by
 letI:Inhabited { t:β // S t }:=⟨⟨z,hz⟩⟩
 obtain ⟨hlen,cells,hr,hM⟩:=ho;have hcells:cells = l.flatMap enc:=chunks hk hp (by have:=hr.1;exact this) (fun i x hx=>(hM i x hx).1);subst hcells;have hfit:∀ t ∈ l,fits t:=fun t ht=>by
  obtain ⟨i,hi,rfl⟩:=List.mem_iff_getElem.1 ht;exact (hM i _ (Zg hi)).2
 obtain ⟨ls,hls⟩:∃ ls:List { t:β // S t },ls.map (·.1) = l:=⟨l.attachWith S hs,by simp⟩;have hll:ls.length = l.length:=by rw [<- hls];simp
 have hfm:ls.flatMap (fun x=>enc x.1) = l.flatMap enc:=by rw [<- hls,List.flatMap_map]
 have hk':∀ x:{ t:β // S t },((fun x:{ t:β // S t }=>enc x.1) x).length = k:=fun x=>hk x.1
 have hr':w.ownsRow base e k (.slice (some ⟨g,0,none⟩) ls.length cap) ls.length (ls.flatMap fun x=>enc x.1):=by rw [hll,hfm];exact hr
 have hlt:g < w.heap.size:=by
  rcases hr.2 with ⟨h,_⟩ | ⟨g',cap',cur,h,hg,hh,_⟩
  ·
   cases h
  ·
   cases h;exact (Array.getElem?_eq_some_iff.1 hh).1
 have key:=AnyQ.slices_SortFunc L k aE zE (fun x:{ t:β // S t }=>enc x.1) hk' (fun x u hu=>h1 x.1 u hu) (fun x y=>cf x.1 y.1) hO f #[] g 0 cap ls.toArray w eg
  (cmp_lays (fun x y w=>hc x.1 y.1 w x.2 y.2) g 0 _ w) (holds_of hk' hp hr') hlt (by simp;omega)
 have hsz:ls.toArray.size = l.length:=by simp [hll]
 rw [hsz] at key;refine key.mono ?_;rintro en w' ⟨rfl,d',n,os,hperm,hsort,rfl⟩;obtain ⟨p1,p2,p3⟩:=hperm;have hd:d'.size = ls.length:=by rw [p1];simp
 obtain ⟨q1,q2⟩:=row_sorted (α:={ t:β // S t }) hk' hp hr' d' hd n os;have hper:d'.toList.Perm ls:=by
  have e1:(d'.extract 0 l.length) = d':=by rw [<- hll,<- hd];simp
  have e2:(ls.toArray.extract 0 l.length) = ls.toArray:=by rw [<- hll];simp
  rw [e1,e2] at p3;simpa using p3
 have hlen':(d'.toList.map (·.1)).length = l.length:=by simp [hd,hll]
 refine ⟨rfl,d'.toList.map (·.1),?_,?_,⟨by rw [hlen'];exact hlen,_,?_,fun i x hx=>⟨chunk_of hk hx,?_⟩⟩,q2⟩
 ·
  rw [<- hls];exact hper.map _
 ·
  rw [List.pairwise_map,List.pairwise_iff_getElem];intro i j hi hj hij hlt;have:=hsort i j (Nat.zero_le _) hij (by have:j < d'.size:=(by simpa using hj);omega);unfold ltOf at this;rw [decide_eq_false_iff_not] at this;have hi':i < d'.size:=by simpa using hi
  have hj':j < d'.size:=by simpa using hj
  rw [getElem!_pos d' i hi',getElem!_pos d' j hj'] at this;exact this hlt
 ·
  have:(d'.toList.map (·.1)).flatMap enc = d'.toList.flatMap (fun x=>enc x.1):=by rw [List.flatMap_map]
  rw [this,hlen',<- hll];exact q1
 ·
  have hm:x ∈ d'.toList.map (·.1):=List.mem_of_getElem? hx;have:x ∈ l:=by
   rw [<- hls];exact (hper.map (·.1)).mem_iff.1 hm
  exact hfit x this
end SortT
namespace StoreW
open Go.RowKit Go.Lib B Rd TermPure LinesPure Tri OrdG
def idsL (x:Ids):List Value:=[.int .i64 (x.a:Nat),.int .i64 (x.b:Nat),.int .i64 (x.c:Nat)]
def FitsI (x:Ids):Prop:=x.a <= 140737488355328/\x.b <= 140737488355328/\x.c <= 140737488355328
def idsK:Kd Ids:=held 3 (by decide) idsL FitsI (fun _=>rfl) (fun t u hu=>by
 simp [idsL] at hu
 rcases hu with rfl | rfl | rfl <;> rfl)
def natZ (l:List Nat):List Int:=l.map fun (n:Nat)=>(n:Int)
theorem natZ_len (l:List Nat):(natZ l).length = l.length:=by simp [natZ]
def at3 (x:Ids):Nat -> Nat
 | 0=>x.a
 | 1=>x.b
 | _=>x.c
theorem own_any {α:Type} {d:Kd α} {e:TypeId} {w:World} {base:Nat} {ok ok':Nat -> Prop} {v:Value} {xs:List α} (hany:∀ (w:World) (ok ok':Nat -> Prop) (x:α) (cs:List Value),d.M w ok x cs -> d.M w ok' x cs) (h:d.own e w base ok v xs):d.own e w base ok' v xs:=by
 obtain ⟨h0,cells,h1,h2⟩:=h;exact ⟨h0,cells,h1,fun i x hx=>hany _ _ _ _ _ (h2 i x hx)⟩
theorem own_from {α:Type} {d:Kd α} {e:TypeId} {w:World} {base:Nat} {ok:Nat -> Prop} {v:Value} {xs:List α} (hany:∀ (w:World) (ok ok':Nat -> Prop) (x:α) (cs:List Value),d.M w ok x cs -> d.M w ok' x cs) (h:d.own e w base ok v xs):d.sl.M w (fun k=>base <= k) xs [v]:=
 Kd.own_sl (ok:=fun k=>base <= k) (own_any hany h) (fun k hk=>hk) (fun k hk=>hk)
structure WaveAt (w:World) (ok:Nat -> Prop) (g:Nat) (l:List Nat):Prop where
 lt:ok g
 row:∃ A c,w.cell? ⟨g,0,none⟩ = some (.slice A l.length c)/\intK.sl.M w ok (natZ l) [.slice A l.length c]
structure RingAt (w:World) (ok:Nat -> Prop) (g:Nat) (I:List Ids):Prop where
 lt:ok g
 cols:∀ j,j < 3 -> ∃ h,w.cell? ⟨g,j,none⟩ = some (.pointer (some ⟨h,0,none⟩))/\WaveAt w ok h (I.map fun x=>at3 x j)
 row:∃ A c,w.cell? ⟨g,3,none⟩ = some (.slice A I.length c)/\idsK.sl.M w ok I [.slice A I.length c]
structure StoreAt (w:World) (ok:Nat -> Prop) (g:Nat) (T:List Triple):Prop where
 lt:ok g
 tri:∃ A c,w.cell? ⟨g,0,none⟩ = some (.slice A T.length c)/\triK.sl.M w ok T [.slice A T.length c]
 terms:∃ A c,w.cell? ⟨g,1,none⟩ = some (.slice A (termsT T).length c)/\termK.sl.M w ok (termsT T) [.slice A (termsT T).length c]
 ring:∃ h,w.cell? ⟨g,2,none⟩ = some (.pointer (some ⟨h,0,none⟩))/\RingAt w ok h (idsT T)
section
variable {w w1 : World} {ok ok' : Nat → Prop} {g : Nat}
theorem cell_move (hm:∀ k,ok k -> k < w.heap.size -> w1.heap[k]? = w.heap[k]?) (hB:ok g) {o:Nat} {v:Value} (h:w.cell? ⟨g,o,none⟩ = some v):w1.cell? ⟨g,o,none⟩ = some v:=
 (World.cell?_of_block (a:=⟨g,o,none⟩) (hm g hB (World.block_lt_of_cell? w _ h))).trans h
theorem WaveAt.hp {l:List Nat} (h:WaveAt w ok g l):g < w.heap.size:=by
 obtain ⟨_,A,c,h3,_⟩:=h;exact World.block_lt_of_cell? w _ h3
theorem RingAt.hp {I:List Ids} (h:RingAt w ok g I):g < w.heap.size:=by
 obtain ⟨_,_,A,c,h3,_⟩:=h;exact World.block_lt_of_cell? w _ h3
theorem StoreAt.hp {T:List Triple} (h:StoreAt w ok g T):g < w.heap.size:=by
 obtain ⟨_,⟨A,c,h3,_⟩,_⟩:=h;exact World.block_lt_of_cell? w _ h3
theorem WaveAt.move {l:List Nat} (h:WaveAt w ok g l) (hm:∀ k,ok k -> k < w.heap.size -> w1.heap[k]? = w.heap[k]?):WaveAt w1 ok g l:=by
 obtain ⟨h1,A,c,h3,h4⟩:=h;exact ⟨h1,A,c,cell_move hm h1 h3,intK.sl.move hm h4⟩
theorem RingAt.move {I:List Ids} (h:RingAt w ok g I) (hm:∀ k,ok k -> k < w.heap.size -> w1.heap[k]? = w.heap[k]?):RingAt w1 ok g I:=by
 obtain ⟨h1,hc,A,c,h3,h4⟩:=h;exact ⟨h1,fun j hj=>by obtain ⟨p,hp,hpw⟩:=hc j hj;exact ⟨p,cell_move hm h1 hp,hpw.move hm⟩,A,c,cell_move hm h1 h3,idsK.sl.move hm h4⟩
theorem StoreAt.move {T:List Triple} (h:StoreAt w ok g T) (hm:∀ k,ok k -> k < w.heap.size -> w1.heap[k]? = w.heap[k]?):StoreAt w1 ok g T:=by
 obtain ⟨h1,⟨A,c,h3,h4⟩,⟨A',c',h3',h4'⟩,r,hr,hrr⟩:=h;exact ⟨h1,⟨A,c,cell_move hm h1 h3,triK.sl.move hm h4⟩,⟨A',c',cell_move hm h1 h3',termK.sl.move hm h4'⟩,r,cell_move hm h1 hr,hrr.move hm⟩
theorem StoreAt.below {T:List Triple} (h:StoreAt w ok g T) (hb:Below w.heap.size w w1):StoreAt w1 ok g T:=h.move (fun k _ hk=>hb.block k hk)
theorem RingAt.below {I:List Ids} (h:RingAt w ok g I) (hb:Below w.heap.size w w1):RingAt w1 ok g I:=h.move (fun k _ hk=>hb.block k hk)
theorem WaveAt.mono {l:List Nat} (h:WaveAt w ok g l) (hk:∀ k,ok k -> k < w.heap.size -> ok' k):WaveAt w ok' g l:=by
 have hg:=h.hp;obtain ⟨h1,A,c,h3,h4⟩:=h;exact ⟨hk g h1 hg,A,c,h3,intK.sl.mono hk h4⟩
theorem RingAt.mono {I:List Ids} (h:RingAt w ok g I) (hk:∀ k,ok k -> k < w.heap.size -> ok' k):RingAt w ok' g I:=by
 have hg:=h.hp;obtain ⟨h1,hc,A,c,h3,h4⟩:=h;exact ⟨hk g h1 hg,fun j hj=>by obtain ⟨p,hp,hpw⟩:=hc j hj;exact ⟨p,hp,hpw.mono hk⟩,A,c,h3,idsK.sl.mono hk h4⟩
theorem StoreAt.mono {T:List Triple} (h:StoreAt w ok g T) (hk:∀ k,ok k -> k < w.heap.size -> ok' k):StoreAt w ok' g T:=by
 have hg:=h.hp;obtain ⟨h1,⟨A,c,h3,h4⟩,⟨A',c',h3',h4'⟩,r,hr,hrr⟩:=h;exact ⟨hk g h1 hg,⟨A,c,h3,triK.sl.mono hk h4⟩,⟨A',c',h3',termK.sl.mono hk h4'⟩,r,hr,hrr.mono hk⟩
end
end StoreW
namespace Search
open Go.RowKit Go.Lib B Rd TermPure LinesPure Tri SortP OrdG TermW Cmp
def cmpV:Value:=.func (.func 89) #[] #[]
theorem term_cells {w:World} {ok:Nat -> Prop} {l:List Term} {A:Option Addr} {c:Nat} (h:termK.sl.M w ok l [.slice A l.length c]) (hp:0 < l.length) :
  ∃ b off,A = some ⟨b,off,none⟩/\ok b/\b < w.heap.size/\∀ i (hi:i < l.length),C3 w b (off + i * 3) l[i]:=by
 obtain ⟨A',c',he,hlc,_,hA,hrow⟩:=h;obtain ⟨rfl,rfl⟩:A = A'/\c = c':=by simpa using he
 obtain ⟨b,off,hAe,hok,hb,hcells⟩:=Kd.row_addr hrow hp;refine ⟨b,off,hAe,hok,hb,fun i hi=>?_⟩;obtain ⟨cs,⟨hcs,_⟩,hcell⟩:=hcells i hi;subst hcs;exact C3.of hcell
theorem C3.new (w:World) (t:Term):C3 (w.alloc (.cells (termL t).toArray 24)) w.heap.size 0 t:=by
 have h:=Tc.TC.new w t;exact ⟨h.c0,h.c1,h.c2⟩
def posOf (R:List Term) (t:Term):Nat:=(R.takeWhile fun x=>decide (ltTm x t)).length
def foundAt (R:List Term) (t:Term):Bool:=match R[posOf R t]? with
 | some x=>decide (cmpTm x t = 0)
 | none=>false
theorem ends_pos:∀ {R:List Term} {t:Term} {i:Nat},TermW.Ends R t i -> posOf R t = i
 | [],t,i,⟨h,_,_⟩=>by simp at h;simp [posOf,h]
 | x :: R,t,0,⟨_,_,h⟩=>by
  have:=h 0 (by simp) (lR _)
  simp at this
  simp [posOf,List.takeWhile_cons,this]
 | x :: R,t,i + 1,⟨h1,h2,h3⟩=>by
  have hx:=h2 0 (by simp) (by omega)
  simp at hx
  have ih:=ends_pos (R:=R) (t:=t) (i:=i) ⟨by simpa using h1,fun j h hj=>by have:=h2 (j + 1) (by simpa using h) (by omega);simpa using this,fun j h hj=>by have:=h3 (j + 1) (by simpa using h) (by omega);simpa using this⟩
  unfold posOf at *
  simp [List.takeWhile_cons,hx,ih]
theorem found_in {R:List Term} {t:Term} {i:Nat} (h:TermW.Ends R t i) (hi:i < R.length):foundAt R t = decide (cmpTm R[i] t = 0):=by
 unfold foundAt;rw [ends_pos h,Zg hi]
theorem found_out {R:List Term} {t:Term} {i:Nat} (h:TermW.Ends R t i) (hi:¬ i < R.length):foundAt R t = false:=by
 unfold foundAt;rw [ends_pos h,List.getElem?_eq_none (by omega)]
theorem ends_at:∀ {R:List Term} (t:Term),R.Pairwise ltTm -> TermW.Ends R t (posOf R t)
 | [],t,_=>⟨by simp [posOf],fun j h=>by simp at h,fun j h=>by simp at h⟩
 | x :: R,t,hp=>by
  have hp':=List.pairwise_cons.1 hp;obtain ⟨h1,h2,h3⟩:=ends_at t hp'.2;by_cases hx:ltTm x t
  ·
   have e:posOf (x :: R) t = posOf R t + 1:=by simp [posOf,List.takeWhile_cons,hx]
   rw [e];refine ⟨by simpa using h1,fun j h hj=>?_,fun j h hj=>?_⟩
   ·
    cases j with
    | zero=>exact hx
    | succ j=>simpa using h2 j (by simpa using h) (by omega)
   ·
    cases j with
    | zero=>omega
    | succ j=>simpa using h3 j (by simpa using h) (by omega)
  ·
   have e:posOf (x :: R) t = 0:=by simp [posOf,List.takeWhile_cons,hx]
   rw [e];refine ⟨by simp,fun j h hj=>by omega,fun j h hj hlt=>?_⟩;cases j with
   | zero=>exact hx hlt
   | succ j =>
    simp at hlt;exact hx (List.lt_trans (hp'.1 _ (Zm (by simpa using h))) hlt)
theorem search_calls (R:List Term) (t:Term) (hR:R.Pairwise ltTm) (hs:∀ x ∈ R,SmallM x) (hst:SmallM t) (A:Option Addr) (c:Nat) (w:World) (HL:termK.sl.M w (fun k=>k < w.heap.size) R [.slice A R.length c]) (hb:R.length <= 1000000) :
  Calls Tryz.prog 95 #[.slice A R.length c,Ref5.termV t,cmpV] w fun e w'=>e = .returned (.tuple #[.int .i64 (posOf R t:Nat),.bool (foundAt R t)])/\Below w.heap.size w w':=by
 have HRow:=Zz (fun hp=>term_cells HL hp);have HS:=Zz hs;have HSt:=Zz hst;have HPw:=Zz hR;have HC0:=Zz (C3.new w t);unfold cmpV Ref5.termV;clear HL hs hst hR;go_enter func95,ntmps95;go_wp2;go_loopw [9,10] (fun vi vj wr=>∃ i j:Nat,vi = .int .i64 i/\vj = .int .i64 j/\i <= j/\j <= R.length/\Hid ((∀ q (h:q < R.length),q < i -> ltTm R[q] t)/\(∀ q (h:q < R.length),j <= q -> ¬ ltTm R[q] t)/\Below w.heap.size w wr/\C3 wr w.heap.size 0 t)) (fun vi vj _=>(intOf vj).toNat - (intOf vi).toNat)
 case atStart=>exact ⟨0,R.length,rfl,rfl,by omega,by omega,Zz ⟨fun q h h0=>by omega,fun q h h0=>by omega,bel_alloc (bR _ _) _,HC0.o⟩⟩
 case round =>
  obtain ⟨i,j,rfl,rfl,hij,hjl,HI⟩:=hrel;clear HC0;by_cases hlt:i < j
  ·
   have hd:decide (i < j) = true:=dT hlt;obtain ⟨h,hh⟩:∃ h,h = (i + j) / 2:=⟨_,rfl⟩;have hq:((i:Int) + (j:Int)) / 2 = (h:Int):=by omega
   have hih:i <= h:=by omega
   have hhj:h < j:=by omega
   clear hh;have hhl:h < R.length:=by omega
   have hhb:(h:Int) < (R.length:Int):=by omega
   obtain ⟨b,off,rfl,_,hbs,hcells⟩:=HRow.o (by omega);have hcx:=(hcells h hhl).below HI.o.2.2.1;have hcy:=HI.o.2.2.2;obtain ⟨x,hx⟩:∃ x,x = R[h]:=⟨_,rfl⟩;rw [<- hx] at hcx;have HCC:=Zz (fun w=>termCmp_calls x t (by rw [hx];exact HS.o _ (Zm hhl)) HSt.o w);obtain ⟨v,hv⟩:∃ v,v = cmpTm x t:=⟨_,rfl⟩;rw [<- hv] at HCC;have HLo:Hid (v < 0 -> ∀ q (hq:q < R.length),q < h + 1 -> ltTm R[q] t):=Zz (fun hneg q hq hqh=>by
    have hxt:ltTm R[h] t:=by rw [<- hx];exact (cmpTm_lt x t).1 (by rw [<- hv];exact hneg)
    by_cases e:q = h
    ·
     subst e;exact hxt
    ·
     exact List.lt_trans (List.pairwise_iff_getElem.1 HPw.o q h hq hhl (by omega)) hxt)
   have HHi:Hid (¬ v < 0 -> ∀ q (hq:q < R.length),h <= q -> ¬ ltTm R[q] t):=Zz (fun hneg q hq hqh hlt2=>by
    have hxt:¬ ltTm R[h] t:=by rw [<- hx];exact fun hl=>hneg (by rw [hv];exact (cmpTm_lt x t).2 hl)
    by_cases e:q = h
    ·
     subst e;exact hxt hlt2
    ·
     exact hxt (List.lt_trans (List.pairwise_iff_getElem.1 HPw.o h q hhl hq (by omega)) hlt2))
   have HIW:=Zz HI.o;clear hcells hx hv HI;by_cases hv0:v < 0
   ·
    have hvd:decide (v < 0) = true:=dT hv0;have HNx:=Zz (HLo.o hv0);clear HLo HHi hv0;obtain ⟨xk,xt,xe⟩:=x;obtain ⟨yk,yt,ye⟩:=t;have x0:=fun p=>(hcx.bel p).c0
    have x1:=fun p=>(hcx.bel p).c1
    have x2:=fun p=>(hcx.bel p).c2
    have y0:=fun p=>(hcy.bel p).c0
    have y1:=fun p=>(hcy.bel p).c1
    have y2:=fun p=>(hcy.bel p).c2
    dsimp only at x0 x1 x2 y0 y1 y2;unfold Ref5.termV at HCC;dsimp only at HCC;go_upto_region 5 with fail
    refine QT.region_all (by kernel_rfl) (by kernel_rfl) ?_
    iterate 6 (go_big_quiet_step (fail))
    go_big_quiet_step (exact QT.Bel.call _ (HCC.o _))
    iterate 1 (go_big_quiet_step (fail))
    refine wpQuiet_nil ?_;intro w2 hw';obtain ⟨⟨_,hb2⟩,rfl⟩:=hw';have HB2:=Zz (bel_step HIW.o.2.2.1 hb2);have HY2:=Zz (hcy.below hb2);clear hb2 x0 x1 x2 y0 y1 y2 hcx hcy HCC;go_wp2;go_roundw
    case rel=>exact ⟨h + 1,j,by go_num,rfl,by omega,by omega,Zz ⟨HNx.o,HIW.o.2.1,HB2.o,HY2.o⟩⟩
    case measure=>simp [intOf];omega
   ·
    have hvd:decide (v < 0) = false:=dF hv0;have HNx:=Zz (HHi.o hv0);clear HLo HHi hv0;obtain ⟨xk,xt,xe⟩:=x;obtain ⟨yk,yt,ye⟩:=t;have x0:=fun p=>(hcx.bel p).c0
    have x1:=fun p=>(hcx.bel p).c1
    have x2:=fun p=>(hcx.bel p).c2
    have y0:=fun p=>(hcy.bel p).c0
    have y1:=fun p=>(hcy.bel p).c1
    have y2:=fun p=>(hcy.bel p).c2
    dsimp only at x0 x1 x2 y0 y1 y2;unfold Ref5.termV at HCC;dsimp only at HCC;go_upto_region 5 with fail
    refine QT.region_all (by kernel_rfl) (by kernel_rfl) ?_
    iterate 6 (go_big_quiet_step (fail))
    go_big_quiet_step (exact QT.Bel.call _ (HCC.o _))
    iterate 1 (go_big_quiet_step (fail))
    refine wpQuiet_nil ?_;intro w2 hw';obtain ⟨⟨_,hb2⟩,rfl⟩:=hw';have HB2:=Zz (bel_step HIW.o.2.2.1 hb2);have HY2:=Zz (hcy.below hb2);clear hb2 x0 x1 x2 y0 y1 y2 hcx hcy HCC;go_wp2;go_roundw
    case rel=>exact ⟨i,h,rfl,rfl,by omega,by omega,Zz ⟨HIW.o.1,HNx.o,HB2.o,HY2.o⟩⟩
    case measure=>simp [intOf];omega
  ·
   have hd:decide (i < j) = false:=dF hlt;obtain rfl:i = j:=by omega
   have HEnds:Hid (TermW.Ends R t i):=Zz ⟨hjl,HI.o.1,HI.o.2.1⟩;by_cases hin:i < R.length
   ·
    have hd2:decide (i < R.length) = true:=dT hin;have hib:(i:Int) < (R.length:Int):=by omega
    obtain ⟨b,off,rfl,_,hbs,hcells⟩:=HRow.o (by omega);have hcx:=(hcells i hin).below HI.o.2.2.1;have hcy:=HI.o.2.2.2;obtain ⟨x,hx⟩:∃ x,x = R[i]:=⟨_,rfl⟩;rw [<- hx] at hcx;have HCC:=Zz (fun w=>termCmp_calls x t (by rw [hx];exact HS.o _ (Zm hin)) HSt.o w);obtain ⟨v,hv⟩:∃ v,v = cmpTm x t:=⟨_,rfl⟩;rw [<- hv] at HCC;have HP:Hid (posOf R t = i/\foundAt R t = decide (v = 0)):=Zz ⟨ends_pos HEnds.o,by rw [found_in HEnds.o hin,hv,hx]⟩;have HIW:=Zz HI.o.2.2.1;clear hcells hx hv HI;obtain ⟨xk,xt,xe⟩:=x;obtain ⟨yk,yt,ye⟩:=t;have x0:=fun p=>(hcx.bel p).c0
    have x1:=fun p=>(hcx.bel p).c1
    have x2:=fun p=>(hcx.bel p).c2
    have y0:=fun p=>(hcy.bel p).c0
    have y1:=fun p=>(hcy.bel p).c1
    have y2:=fun p=>(hcy.bel p).c2
    dsimp only at x0 x1 x2 y0 y1 y2;unfold Ref5.termV at HCC;dsimp only at HCC;go_upto_region 8 with fail
    refine QT.region_all (by kernel_rfl) (by kernel_rfl) ?_
    iterate 11 (go_big_quiet_step (fail))
    go_big_quiet_step (exact QT.Bel.call _ (HCC.o _))
    iterate 4 (go_big_quiet_step (fail))
    refine wpQuiet_nil ?_;intro w2 hw';obtain ⟨⟨_,hb2⟩,rfl⟩:=hw';have HB2:=Zz (bel_step HIW.o hb2);clear hb2 x0 x1 x2 y0 y1 y2 hcx hcy HCC;go_wp2;go_ret2;exact ⟨by rw [HP.o.1,HP.o.2];rfl,HB2.o⟩
   ·
    have hd2:decide (i < R.length) = false:=dF hin;have HB:=Zz HI.o.2.2.1;have HP:Hid (posOf R t = i/\foundAt R t = false):=Zz ⟨ends_pos HEnds.o,found_out HEnds.o hin⟩;clear HI;go_upto_region 8 with fail
    go_quiet (fail);go_wp2;go_ret2;exact ⟨by rw [HP.o.1,HP.o.2];rfl,⟨HB.o.os,HB.o.tape,HB.o.output,HB.o.size,HB.o.block⟩⟩
theorem place_calls (R:List Term) (t:Term) (hR:R.Pairwise ltTm) (hs:∀ x ∈ R,SmallM x) (hst:SmallM t) (A:Option Addr) (c:Nat) (w:World) (HL:termK.sl.M w (fun k=>k < w.heap.size) R [.slice A R.length c]) (hb:R.length <= 1000000) :
  Calls Tryz.prog 47 #[.slice A R.length c,Ref5.termV t] w fun e w'=>e = .returned (.tuple #[.int .i64 (posOf R t:Nat),.bool (foundAt R t)])/\Below w.heap.size w w':=by
 have b0:Below w.heap.size w (w.alloc (.cells (termL t).toArray 24)):=bel_alloc (bR _ _) _;have HC:=Zz (search_calls R t hR hs hst A c (w.alloc (.cells (termL t).toArray 24)) (Kd.M_bound (Kd.M_below HL b0)) hb);have HB0:=Zz b0;obtain ⟨y0,y1,y2⟩:=C3.new w t;simp only [Nat.zero_add] at y1 y2;clear HL hs hst hR b0;obtain ⟨yk,yt,ye⟩:=t;dsimp only at y0 y1 y2;unfold cmpV termL Ref5.termV at *;dsimp only at *;generalize posOf R ⟨yk,yt,ye⟩ = i at *;generalize foundAt R ⟨yk,yt,ye⟩ = b at *;go_enter func47,ntmps47;go_wp2_with fail;refine HC.o.mono ?_;rintro e w2 ⟨rfl,hb2⟩;have HB2:=Zz (bel_step HB0.o hb2);clear hb2 HC;go_wp2;go_ret2;exact ⟨rfl,HB2.o⟩
theorem id_pure {R:List Term} {t:Term} (hR:R.Pairwise ltTm):(foundAt R t = false -> idOf R t = 0)/\(foundAt R t = true -> ∃ h:posOf R t < R.length,idOf R t = if R[posOf R t] = t then posOf R t + 1 else 0):=by
 have he:=ends_at t hR;constructor
 ·
  intro h;refine he.idOf hR (fun hi e=>?_);rw [found_in he hi,decide_eq_false_iff_not] at h;exact h (by rw [e];exact (cmpL_zero _ _).2 rfl)
 ·
  intro h;by_cases hi:posOf R t < R.length
  ·
   refine ⟨hi,?_⟩;by_cases e:R[posOf R t] = t
   ·
    rw [if_pos e,idOf_at hR hi e]
   ·
    rw [if_neg e];exact he.idOf hR (fun _=>e)
  ·
   rw [found_out he hi] at h;cases h
end Search
namespace PackW
open Go.RowKit Go.Lib B Rd StoreW
def TT:Nat -> Prop:=fun _=>True
def bitAt (n k:Nat):Nat:=n / 2 ^ k % 2
def orAt (b:List UInt8) (at' v:Nat):List UInt8:=b.set (at' / 8) ((b[at' / 8]?.getD 0) ||| UInt8.ofNat (v * 2 ^ (at' % 8)))
def packNum (b:List UInt8) (from' n:Nat):Nat -> List UInt8
 | 0=>b
 | k + 1=>orAt (packNum b from' n k) (from' + k) (bitAt n k)
def packF (l:List Nat) (wd:Nat):Nat -> List UInt8
 | 0=>List.replicate ((l.length * wd + 7) / 8) 0
 | i + 1=>packNum (packF l wd i) (i * wd) (l[i]?.getD 0) wd
def packB (l:List Nat) (wd:Nat):List UInt8:=packF l wd l.length
theorem orAt_len (b:List UInt8) (a v:Nat):(orAt b a v).length = b.length:=by simp [orAt]
theorem packNum_len (b:List UInt8) (f n:Nat):∀ k,(packNum b f n k).length = b.length
 | 0=>rfl
 | k + 1=>by rw [packNum,orAt_len,packNum_len b f n k]
theorem packF_len (l:List Nat) (wd:Nat):∀ i,(packF l wd i).length = (l.length * wd + 7) / 8
 | 0=>by simp [packF]
 | i + 1=>by rw [packF,packNum_len,packF_len l wd i]
theorem nat_bits (n:Nat) (h:n < 9223372036854775808):(BitVec.ofInt 64 (n:Int)).toNat = n:=by
 rw [BitVec.toNat_ofInt];omega
theorem and_1 (n:Nat) (h:n < 9223372036854775808):Go.bits .and .i64 (n:Int) 1 = ((n % 2:Nat):Int):=by
 have e:Go.bits .and .i64 (n:Int) 1 = IntKind.i64.wrap (((BitVec.ofInt 64 (n:Int)).toNat &&& 1:Nat):Int):=by
  simp only [bits,BitVec.toNat_and];rfl
 rw [e,nat_bits n h,show n &&& 1 = n % 2 from Nat.and_two_pow_sub_one_eq_mod n 1,Zw];omega
theorem u8_or_nat (a b:Nat) (ha:a < 256) (hb:b < 256):Go.bits .or .u8 (a:Int) (b:Int) = ((a ||| b:Nat):Int):=by
 have hx:a ||| b < 2 ^ 8:=Nat.or_lt_two_pow (by omega) (by omega)
 show IntKind.u8.wrap ((BitVec.ofInt 8 (a:Int) ||| BitVec.ofInt 8 (b:Int)).toNat:Int) = _;rw [BitVec.toNat_or,ofInt_u8 a ha,ofInt_u8 b hb,IntKind.wrap_u8'];omega
theorem and_at (n k:Nat) (h:n < 9223372036854775808):Go.bits .and .i64 ((n:Int) / 2 ^ k) 1 = (bitAt n k:Nat):=by
 have e:(n:Int) / 2 ^ k = ((n / 2 ^ k:Nat):Int):=by push_cast;rfl
 rw [e,and_1 _ (Nat.lt_of_le_of_lt (Nat.div_le_self _ _) h)]
 try rfl
theorem or_at (x:UInt8) (z t:Nat):Go.bits .or .u8 (x.toNat:Int) ((z:Int) % 256 * 2 ^ t % 256) = ((x ||| UInt8.ofNat (z * 2 ^ t)).toNat:Int):=by
 have e:(z:Int) % 256 * 2 ^ t % 256 = ((z * 2 ^ t % 256:Nat):Int):=by
  have e1:z % 256 * 2 ^ t % 256 = z * 2 ^ t % 256:=by rw [Nat.mul_mod,Nat.mod_mod,<- Nat.mul_mod]
  rw [<- e1];simp only [Int.natCast_emod,Int.natCast_mul,Int.natCast_pow];rfl
 rw [e,u8_or_nat _ _ x.toNat_lt (Nat.mod_lt _ (by decide)),UInt8.toNat_or,UInt8.toNat_ofNat']
theorem info_u8:(Tryz.prog.info? 5).map (fun i=>(i.zero,i.size,i.bytes)) = some (some (.int .u8 0),1,1):=by kernel_rfl
theorem made_row {W:World} {base g n:Nat} (hb:base <= g) (hn:n <= 140737488355328) (hh:W.heap[g]? = some (.cells (madeCells #[.int .u8 0] n) 5 (0,0))) :
  byteK.own 5 W base TT (.slice (some ⟨g,0,none⟩) n n) (List.replicate n 0):=by
 refine Kd.own_make (z:=.int .u8 0) hn rfl (fun _ _=>rfl) ⟨by simp,.inr ⟨g,n,_,rfl,hb,hh,lR _,by unfold maxLen;omega,by simp [madeCells],?_⟩⟩;rw [toList_madeCells_one];simp
theorem width_calls (n:Nat) (hn:n <= 9223372036854775807) (w:World):Calls Tryz.prog 59 #[.int .i64 n] w fun e w'=>e = .returned (.int .i64 (Lib.bitLen n:Nat))/\w = w':=by
 have HB:=Zz (fun w=>Tryz.bits_Len (n:Int) w (by omega) (by omega));rw [Int.toNat_natCast] at HB;generalize Lib.bitLen n = b at *;have hmax:max (n:Int) 0 = (n:Int):=by omega
 have hw:IntKind.u64.wrap (n:Int) = (n:Int):=by rw [IntKind.wrap_u64];omega
 go_enter func59,ntmps59;go_wp2_with fail;refine (HB.o _).mono ?_;rintro e w2 ⟨rfl,rfl⟩;go_wp2;go_ret;exact ⟨rfl,rfl⟩
theorem fits_calls (n wd:Nat) (h1:n <= 1000) (h2:wd <= 20) (w:World):Calls Tryz.prog 100 #[.int .i64 n,.int .i64 wd] w fun e w'=>e = .returned (.bool true)/\w = w':=by
 have a1:(0:Int) <= (n:Int):=by omega
 have a2:(0:Int) <= (wd:Int):=by omega
 have a3:(n:Int) <= 1000:=by omega
 have a4:(wd:Int) <= 20:=by omega
 go_enter func100,ntmps100;go_wp2;go_ret;exact ⟨rfl,rfl⟩
theorem size_calls (n:Nat) (h1:n <= 1000000) (w:World):Calls Tryz.prog 101 #[.int .i64 n] w fun e w'=>e = .returned (.int .i64 ((n + 7) / 8:Nat))/\w = w':=by
 have q1:IntKind.i64.wrap ((n:Int) + 8) = (n:Int) + 8:=by rw [Zw];omega
 have q2:IntKind.i64.wrap ((n:Int) + 8 - 1) = ((n + 7:Nat):Int):=by rw [Zw];omega
 have q3:((n + 7:Nat):Int).tdiv 8 = ((n + 7) / 8:Nat):=by rfl
 go_enter func101,ntmps101;go_wp2;go_ret;exact ⟨rfl,rfl⟩
theorem int_cells {w:World} {ok:Nat -> Prop} {l:List Nat} {A:Option Addr} {c:Nat} (h:intK.sl.M w ok (natZ l) [.slice A l.length c]) (hp:0 < l.length) :
  ∃ b off,A = some ⟨b,off,none⟩/\ok b/\b < w.heap.size/\∀ i (hi:i < l.length),w.cell? ⟨b,off + i,none⟩ = some (.int .i64 (l[i]:Nat)):=by
 obtain ⟨A',c',he,hlc,_,hA,hrow⟩:=h;have hz:(natZ l).length = l.length:=by simp [natZ]
 obtain ⟨rfl,rfl⟩:A = A'/\c = c':=by simpa [hz] using he
 obtain ⟨b,off,hAe,hok,hcells⟩:=Kd.row_plain rfl hrow (by omega);have hget:∀ i (hi:i < l.length),w.cell? ⟨b,off + i,none⟩ = some (.int .i64 (l[i]:Nat)):=fun i hi=>by
  obtain ⟨u,hu,hM⟩:=hcells i (by omega);have e:(natZ l)[i]'(by omega) = ((l[i]:Nat):Int):=by simp [natZ]
  rw [e] at hM;obtain ⟨h1,_⟩:=hM;simp at h1;rw [hu,h1]
 exact ⟨b,off,hAe,hok,cell_lt (hget 0 hp),hget⟩
theorem pack_calls (l:List Nat) (wd:Nat) (hw:wd <= 20) (hl:l.length <= 1000) (hn:∀ n ∈ l,n <= 1000000/\Lib.bitLen n <= wd) (A:Option Addr) (c:Nat) (w:World) (HL:intK.sl.M w (fun k=>k < w.heap.size) (natZ l) [.slice A l.length c]) :
  Calls Tryz.prog 58 #[.slice A l.length c,.int .i64 wd] w fun e w'=>(∃ v,e = .returned (.tuple #[v,.int .i64 0])/\byteK.own 5 w' w.heap.size TT v (packB l wd))/\Below w.heap.size w w':=by
 have HRow:=Zz (fun hp=>int_cells HL hp);have HN:=Zz hn;obtain ⟨m,hm⟩:∃ m,m = l.length * wd:=⟨_,rfl⟩;have hmul:(l.length:Int) * (wd:Int) = (m:Int):=by rw [hm];rfl
 have hmb:m <= 20000:=by rw [hm];exact Zh (Nat.mul_le_mul hl hw) (by decide)
 have hwm:IntKind.i64.wrap (m:Int) = (m:Int):=by rw [Zw];omega
 have HM:=Zz hm;obtain ⟨sz,hsz⟩:∃ sz,sz = (m + 7) / 8:=⟨_,rfl⟩;have hszb:sz <= 2501:=by omega
 have HSz:=Zz hsz;have HF:=Zz (fun w=>fits_calls l.length wd hl hw w);have HS:=Zz (fun w=>size_calls m (by omega) w);rw [<- hsz] at HS;have hmk:=run_make_row' (P:=Tryz.prog) 55 5 (.int .u8 0) 1 underlying55 info_u8 rfl .i64 .i64 sz (by omega) (by omega);have HB0:Hid (Below w.heap.size w (w.alloc (.cells (madeCells #[.int .u8 0] sz) 5))):=Zz (bel_alloc (bR _ _) _);have HO0:Hid (byteK.own 5 (w.alloc (.cells (madeCells #[.int .u8 0] sz) 5)) w.heap.size TT (.slice (some ⟨w.heap.size,0,none⟩) sz sz) (packF l wd 0)):=Zz (by
  rw [packF,<- HM.o,<- HSz.o];exact made_row (lR _) (by omega) (Kd.heap_new _ _))
 generalize madeCells #[.int .u8 0] sz = C0 at *;clear HL hn hm hsz;go_enter func58,ntmps58;go_wp2_with fail;refine (HF.o _).mono ?_;rintro e w2 ⟨rfl,rfl⟩;go_wp2_with fail;refine (HS.o _).mono ?_;rintro e w3 ⟨rfl,rfl⟩;go_wp2;go_loopw [24] (fun vi wr=>∃ i:Nat,vi = .int .i64 i/\i <= l.length/\Hid (byteK.own 5 wr w.heap.size TT (.slice (some ⟨w.heap.size,0,none⟩) sz sz) (packF l wd i)/\Below w.heap.size w wr)) (fun vi _=>l.length - (intOf vi).toNat)
 case atStart=>exact ⟨0,rfl,by omega,Zz ⟨HO0.o,HB0.o⟩⟩
 case round =>
  obtain ⟨i,rfl,hiL,HI⟩:=hrel;clear HO0 HB0 hmk;by_cases hlt:i < l.length
  ·
   have hd:decide (i < l.length) = true:=dT hlt;have ik:(i:Int) < (l.length:Int):=by omega
   obtain ⟨b,off,rfl,hbs,_,hcells⟩:=HRow.o (by omega);have hc:=(HI.o.2.cell (p:=⟨b,off + i,none⟩) hbs).trans (hcells i hlt);obtain ⟨n,hne⟩:∃ n,n = l[i]:=⟨_,rfl⟩;rw [<- hne] at hc;obtain ⟨hnb,hnw⟩:=HN.o n (by rw [hne];exact Zm hlt);have HW:=Zz (fun w=>width_calls n (by omega) w);obtain ⟨q,hq⟩:∃ q,q = Lib.bitLen n:=⟨_,rfl⟩;rw [<- hq] at HW hnw;have hn0:¬ (n:Int) < 0:=by omega
   have hqw:¬ (wd:Int) < (q:Int):=by omega
   obtain ⟨P0,hP0⟩:∃ P0,P0 = packF l wd i:=⟨_,rfl⟩;have HNext:Hid (packF l wd (i + 1) = packNum P0 (i * wd) n wd):=Zz (by rw [packF,<- hP0,hne,Zg hlt];rfl);have HLen:Hid (P0.length = sz):=Zz (by rw [hP0,packF_len,<- HM.o,<- HSz.o]);have HOi:Hid (byteK.own 5 wr w.heap.size TT (.slice (some ⟨w.heap.size,0,none⟩) sz sz) (packNum P0 (i * wd) n 0)):=Zz (by rw [packNum,hP0];exact HI.o.1);have HBi:=Zz HI.o.2;obtain ⟨fr,hfr⟩:∃ fr,fr = i * wd:=⟨_,rfl⟩;have hfri:(i:Int) * (wd:Int) = (fr:Int):=by rw [hfr];rfl
   have hfrb:fr + wd <= m:=by
    rw [hfr,HM.o];have:=Nat.mul_le_mul_right wd (show i + 1 <= l.length from hlt);rw [Nat.succ_mul] at this;exact this
   rw [<- hfr] at HNext HOi;clear hcells hne hq hP0 hfr;go_wp2_with fail;refine (HW.o _).mono ?_;rintro e w4 ⟨rfl,rfl⟩;go_wp2;go_loopw [38] (fun vk wx=>∃ k:Nat,vk = .int .i64 k/\k <= wd/\Hid (byteK.own 5 wx w.heap.size TT (.slice (some ⟨w.heap.size,0,none⟩) sz sz) (packNum P0 fr n k)/\Below w.heap.size w wx)) (fun vk _=>wd - (intOf vk).toNat)
   case atStart=>exact ⟨0,rfl,by omega,Zz ⟨HOi.o,HBi.o⟩⟩
   case round =>
    obtain ⟨k,rfl,hkw,HK⟩:=hrel;clear HOi HBi;by_cases hkl:k < wd
    ·
     have hd2:decide (k < wd) = true:=dT hkl;have hjs:(fr + k) / 8 < sz:=by have:=HSz.o;omega
     have jz:(((fr + k) / 8:Nat):Int) < (sz:Int):=by omega
     have hlen:(packNum P0 fr n k).length = sz:=by rw [packNum_len,HLen.o]
     obtain ⟨u,hcu,hu⟩:=Kd.own_cell (i:=(fr + k) / 8) rfl HK.o.1 (by omega);obtain ⟨x,hx⟩:∃ x:UInt8,x = (packNum P0 fr n k)[(fr + k) / 8]'(by omega):=⟨_,rfl⟩;obtain rfl:u = .int .u8 (x.toNat:Int):=by rw [hx];simpa [byteK,flat] using hu
     obtain ⟨z,hz⟩:∃ z,z = bitAt n k:=⟨_,rfl⟩;have hand:=and_at n k (by omega);rw [<- hz] at hand;have hor:=or_at x z ((fr + k) % 8);obtain ⟨y,hy⟩:∃ y,y = x ||| UInt8.ofNat (z * 2 ^ ((fr + k) % 8)):=⟨_,rfl⟩
     rw [<- hy] at hor;have HSet:Hid (∀ w2,Below wr.heap.size wr w2 -> byteK.own 5 (w2.setCell ⟨w.heap.size,(fr + k) / 8,none⟩ (.int .u8 (y.toNat:Int))) w.heap.size TT (.slice (some ⟨w.heap.size,0,none⟩) sz sz) (packNum P0 fr n (k + 1))/\Below w.heap.size w (w2.setCell ⟨w.heap.size,(fr + k) / 8,none⟩ (.int .u8 (y.toNat:Int)))/\w2.cell? ⟨w.heap.size,(fr + k) / 8,none⟩ = some (.int .u8 (x.toNat:Int))/\w2.frozen? ⟨w.heap.size,(fr + k) / 8,none⟩ = false):=Zz (fun w2 hb2=>by
      have h1:=Kd.own_below HK.o.1 hb2;have h2:=Kd.own_set (u:=.int .u8 (y.toNat:Int)) rfl h1 (i:=(fr + k) / 8) (by omega) (x:=y) rfl;have e:packNum P0 fr n (k + 1) = (packNum P0 fr n k).set ((fr + k) / 8) y:=by
       rw [packNum,orAt,<- hz,Zg (by omega),<- hx,hy]
       try rfl
      rw [e];have hgl:=cell_lt hcu;exact ⟨h2,bel_set (bel_step HK.o.2 hb2) (lR _) _,(hb2.cell (p:=⟨w.heap.size,(fr + k) / 8,none⟩) hgl).trans hcu,Kd.own_frozen h1 _⟩)
     have hcp:=fun p:QT.Bel wr=>p.cell hcu
     clear hu hx hz hy;go_upto_region 13 with fail
     refine QT.region_bel 15 (by kernel_rfl) (by kernel_rfl) ?_;simp only [List.take_succ_cons,List.take_zero,List.drop_succ_cons,List.drop_zero]
     iterate 15 (go_big_quiet_step (fail))
     refine wpQuiet_nil ?_;intro w2 hw';obtain ⟨⟨_,hb2⟩,rfl⟩:=hw';obtain ⟨h1,h2,hc2,hf2⟩:=HSet.o w2 hb2;have HN1:=Zz h1;have HN2:=Zz h2;clear h1 h2 hb2 HSet hcp hcu HK;go_wp2;go_roundw
     case rel=>exact ⟨k + 1,by go_num,by omega,Zz ⟨HN1.o,HN2.o⟩⟩
     case measure=>simp [intOf];omega
    ·
     have hd2:decide (k < wd) = false:=dF hkl;obtain rfl:k = wd:=by omega
     have HK2:Hid (byteK.own 5 wr w.heap.size TT (.slice (some ⟨w.heap.size,0,none⟩) sz sz) (packF l k (i + 1))):=Zz (by rw [HNext.o];exact HK.o.1);have HB2:=Zz HK.o.2;clear HK;go_wp2;go_roundw
     case rel=>exact ⟨i + 1,by go_num,by omega,Zz ⟨HK2.o,HB2.o⟩⟩
     case measure=>simp [intOf];omega
  ·
   have hd:decide (i < l.length) = false:=dF hlt;obtain rfl:i = l.length:=by omega
   have HI2:=Zz HI.o;clear HI;go_wp2;go_ret2;exact ⟨⟨_,rfl,HI2.o.1⟩,HI2.o.2⟩
end PackW
end Go.Proofs.YtnplommdgfgboaaGreatDoor
