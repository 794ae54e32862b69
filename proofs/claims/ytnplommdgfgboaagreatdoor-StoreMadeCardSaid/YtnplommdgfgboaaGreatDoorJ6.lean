/-
  Texts of the claim, one behind the other: Prg9, PrgA, PrgB, PrgC, Parse, MadeL, QT2, Made, ParseOk, StoreM, Known11, Long11, RefPrint, SPrint, SPrint2, Known, Put, RefSort, Same.
-/
import Derived.Test.YtnplommdgfgboaaGreatDoorJ5
import Derived.Deep.CutBlock
import Derived.Lib.CutLaws
set_option linter.unusedVariables false
set_option linter.unusedSimpArgs false
set_option maxHeartbeats 25600000
set_option maxRecDepth 100000
open Go.Proofs.Tryz
namespace Go.Proofs.YtnplommdgfgboaaGreatDoor
namespace Prg
open Go.RowKit Go.Lib B Rd Utf TermPure LinesPure Tx Env Bld Tc
open Go.Proofs.YtnplommdgfgboaaGreatDoor.Ref5 (termV Fits tripleV FitsT isTriple_eq)
theorem pis_calls (t:Term) (ht:Fits t) (hx4:t.extra.length <= 4294967000) (w:World) (he:Env w) :
  Calls Tryz.prog 151 #[termV t] w fun e w'=>e = .returned (.bool (is t))/\Below w.heap.size w w':=by
 obtain ⟨kind,x,ex⟩:=t;obtain ⟨_,hx,hex⟩:=ht;dsimp only at *;have zx:=mkS_size x;have ze:=mkS_toList ex;have HE:=Zz he;have HI:Hid (is ⟨kind,x,ex⟩ = if kind = 1 then isIRI x && decide (ex = [])
  else if kind = 2 then isLabel x && decide (ex = [])
  else if kind = 3 then isText x && decide (ex = [])
  else if kind = 4 then isText x && isLang ex
  else if kind = 5 then isText x && isIRI ex
  else false):=Zz rfl
 obtain ⟨xe,hxe⟩:∃ xe:Bool,decide (ex = []) = xe:=⟨_,rfl⟩;have hee:ex.isEmpty = xe:=by rw [<- hxe];cases ex <;> rfl
 rw [hxe] at HI;clear he hxe;unfold termV;dsimp only;go_enter func151,ntmps151;go_upto_region 1 with fail
 go_cut [3] (fun v3 wx=>v3 = .bool (isText x)/\Hid (Below (w.heap.size + 1) (w.alloc (.cells #[.int .i64 kind,.string (mkS x),.string (mkS ex)] 24)) wx))
 case first =>
  clear hee HI;have HT:Hid (isText x = (decide (x.length <= 30) && validD x)):=Zz rfl;by_cases h30:x.length <= 30
  ·
   have e30:decide ((x.length:Int) <= 30) = true:=dT (by omega);go_wp2_with fail;refine (valid_calls x (by omega) _ (HE.o.below ((bR _ _).alloc (lR _) _))).mono ?_;rintro e w1 ⟨rfl,hb1⟩;have HB1:=Zz hb1;clear hb1;have HT2:=Zz (show isText x = validD x by rw [HT.o,dT h30];simp);generalize validD x = v at *;cases v
   all_goals go_wp2
   all_goals go_meet
   all_goals exact ⟨by rw [HT2.o],Zz (by simpa using HB1.o)⟩
  ·
   have e30:decide ((x.length:Int) <= 30) = false:=dF (by omega);have HT2:=Zz (show isText x = false by rw [HT.o,dF h30];rfl);go_wp2;go_meet;exact ⟨by rw [HT2.o],Zz (bR _ _)⟩
 case rest =>
  obtain ⟨rfl,HB⟩:=hcut;have hb1:=HB.o;have hb1':Below (w.alloc (.cells #[.int .i64 kind,.string (mkS x),.string (mkS ex)] 24)).heap.size (w.alloc (.cells #[.int .i64 kind,.string (mkS x),.string (mkS ex)] 24)) wc:=by simpa using hb1
  obtain ⟨hc1,hf1⟩:=bcell hb1';have HW:=Zz (show Below w.heap.size w wc from ((bR _ _).alloc (lR _) _).trans (hb1.mono (by omega)));have HE1:=Zz (HE.o.below HW.o);have WC:w.heap.size < wc.heap.size:=by have:=hb1.size;simp at this;omega
  clear hb1 hb1' HB HE;generalize isText x = tx at *;by_cases k1:kind = 1
  ·
   subst k1;have HF:=Zz (HI.o.trans (if_pos rfl));clear HI;go_wp2_with fail;refine (isIRI_calls x (by omega) _ HE1.o).mono ?_;rintro e w2 ⟨rfl,hb2⟩;obtain ⟨hc2,hf2⟩:=bcell hb2;have hz2:=hb2.size;have HW2:=Zz (bel_step HW.o hb2);have hz1:w.heap.size < wc.heap.size:=WC;clear hb2;generalize isIRI x = r at *;cases r
   all_goals go_wp2
   all_goals go_ret
   all_goals exact ⟨ret_bool (by rw [HF.o];simp [*]),HW2.o⟩
  ·
   have e1:(kind == 1) = false:=by rw [Zb];exact k1
   by_cases k2:kind = 2
   ·
    subst k2;have HF:=Zz (HI.o.trans ((if_neg (by decide)).trans (if_pos rfl)));clear HI;go_wp2_with fail;refine (isLabel_calls x (by omega) _).mono ?_;rintro e w2 ⟨rfl,hb2⟩;obtain ⟨hc2,hf2⟩:=bcell hb2;have hz2:=hb2.size;have HW2:=Zz (bel_step HW.o hb2);have hz1:w.heap.size < wc.heap.size:=WC;clear hb2;generalize isLabel x = r at *;cases r
    all_goals go_wp2
    all_goals go_ret
    all_goals exact ⟨ret_bool (by rw [HF.o];simp [*]),HW2.o⟩
   ·
    have e2:(kind == 2) = false:=by rw [Zb];exact k2
    by_cases k3:kind = 3
    ·
     subst k3;have HF:=Zz (HI.o.trans ((if_neg (by decide)).trans ((if_neg (by decide)).trans (if_pos rfl))));clear HI;cases tx with
     | false =>
      go_wp2
      all_goals go_ret
      all_goals exact ⟨ret_bool (by rw [HF.o];simp [*]),HW.o⟩
     | true =>
      go_wp2
      all_goals go_ret
      all_goals exact ⟨ret_bool (by rw [HF.o];simp [*]),HW.o⟩
    ·
     have e3:(kind == 3) = false:=by rw [Zb];exact k3
     by_cases k4:kind = 4
     ·
      subst k4;have HF:=Zz (HI.o.trans ((if_neg (by decide)).trans ((if_neg (by decide)).trans ((if_neg (by decide)).trans (if_pos rfl)))));clear HI;cases tx with
      | false =>
       go_wp2
       all_goals go_ret
       all_goals exact ⟨ret_bool (by rw [HF.o];simp [*]),HW.o⟩
      | true =>
       go_wp2_with fail;refine (isLang_calls ex (by omega) _ HE1.o).mono ?_;rintro e w2 ⟨rfl,hb2⟩;obtain ⟨hc2,hf2⟩:=bcell hb2;have hz2:=hb2.size;have HW2:=Zz (bel_step HW.o hb2);have hz1:w.heap.size < wc.heap.size:=WC;clear hb2;generalize isLang ex = r at *;cases r
       all_goals go_wp2
       all_goals go_ret
       all_goals exact ⟨ret_bool (by rw [HF.o];simp [*]),HW2.o⟩
     ·
      have e4:(kind == 4) = false:=by rw [Zb];exact k4
      by_cases k5:kind = 5
      ·
       subst k5;have HF:=Zz (HI.o.trans ((if_neg (by decide)).trans ((if_neg (by decide)).trans ((if_neg (by decide)).trans ((if_neg (by decide)).trans (if_pos rfl))))));clear HI;cases tx with
       | false =>
        go_wp2
        all_goals go_ret
        all_goals exact ⟨ret_bool (by rw [HF.o];simp [*]),HW.o⟩
       | true =>
        go_wp2_with fail;refine (isIRI_calls ex (by omega) _ HE1.o).mono ?_;rintro e w2 ⟨rfl,hb2⟩;obtain ⟨hc2,hf2⟩:=bcell hb2;have hz2:=hb2.size;have HW2:=Zz (bel_step HW.o hb2);have hz1:w.heap.size < wc.heap.size:=WC;clear hb2;generalize isIRI ex = r at *;cases r
        all_goals go_wp2
        all_goals go_ret
        all_goals exact ⟨ret_bool (by rw [HF.o];simp [*]),HW2.o⟩
      ·
       have e5:(kind == 5) = false:=by rw [Zb];exact k5
       have HF:=Zz (HI.o.trans ((if_neg k1).trans ((if_neg k2).trans ((if_neg k3).trans ((if_neg k4).trans (if_neg k5))))));clear HI;go_wp2;go_ret;exact ⟨ret_bool HF.o.symm,HW.o⟩
theorem pist_calls (t:Triple) (ht:FitsT t) (hg:t.s.extra.length <= 4294967000/\t.p.extra.length <= 4294967000/\t.o.extra.length <= 4294967000) (w:World) (he:Env w) :
  Calls Tryz.prog 117 #[tripleV t] w fun e w'=>e = .returned (.bool (isTriple t))/\Below w.heap.size w w':=by
 have HI:=Zz (isTriple_eq t);obtain ⟨⟨k1,x1,y1⟩,⟨k2,x2,y2⟩,⟨k3,x3,y3⟩⟩:=t;obtain ⟨h1,h2,h3⟩:=ht;obtain ⟨g1,g2,g3⟩:=hg;dsimp only at *;have HE:=Zz (he.below ((bR w.heap.size w).alloc (lR _) (.cells #[.int .i64 k1,.string (mkS x1),.string (mkS y1),.int .i64 k2,.string (mkS x2),.string (mkS y2),.int .i64 k3,.string (mkS x3),.string (mkS y3)] 36)));have HB:=Zz ((bR w.heap.size w).alloc (lR _) (.cells #[.int .i64 k1,.string (mkS x1),.string (mkS y1),.int .i64 k2,.string (mkS x2),.string (mkS y2),.int .i64 k3,.string (mkS x3),.string (mkS y3)] 36));have H1:=Zz (fun W hW=>pis_calls ⟨k1,x1,y1⟩ h1 g1 W hW);have H2:=Zz (fun W hW=>pis_calls ⟨k2,x2,y2⟩ h2 g2 W hW);have H3:=Zz (fun W hW=>pis_calls ⟨k3,x3,y3⟩ h3 g3 W hW);clear he h1 h2 h3 g1 g2 g3;have HK:=Zz (Ref5.is_kind ⟨k1,x1,y1⟩);dsimp only at HK;unfold termV at H1 H2 H3;dsimp only at H1 H2 H3;generalize is ⟨k1,x1,y1⟩ = r1 at *;generalize is ⟨k2,x2,y2⟩ = r2 at *;generalize is ⟨k3,x3,y3⟩ = r3 at *;unfold tripleV;dsimp only;go_enter func117,ntmps117;go_wp2_with fail;refine (H1.o _ HE.o).mono ?_;rintro e w1 ⟨rfl,hb1⟩;obtain ⟨hc1,hf1⟩:=bcell hb1;have hz1:w.heap.size < w1.heap.size:=by have:=hb1.size;simp at this;omega
 have HB1:=Zz (bel_step HB.o hb1);have HE1:=Zz (HE.o.below hb1);clear hb1;cases r1 with
 | false =>
  have HF:=Zz HI.o;go_wp2;go_ret;exact ⟨ret_bool (by rw [HI.o];rfl),HB1.o⟩
 | true =>
  go_wp2_with fail;refine (H2.o _ HE1.o).mono ?_;rintro e w2 ⟨rfl,hb2⟩;obtain ⟨hc2,hf2⟩:=bcell hb2;have hz2:w.heap.size < w2.heap.size:=by have:=hb2.size;omega
  have HB2:=Zz (bel_step HB1.o hb2);have HE2:=Zz (HE1.o.below hb2);clear hb2;cases r2 with
  | false =>
   go_wp2;go_ret;exact ⟨ret_bool (by rw [HI.o];rfl),HB2.o⟩
  | true =>
   go_wp2_with fail;refine (H3.o _ HE2.o).mono ?_;rintro e w3 ⟨rfl,hb3⟩;obtain ⟨hc3,hf3⟩:=bcell hb3;have hz3:w.heap.size < w3.heap.size:=by have:=hb3.size;omega
   have HB3:=Zz (bel_step HB2.o hb3);clear hb3;cases r3 with
   | false =>
    go_wp2;go_ret;exact ⟨ret_bool (by rw [HI.o];rfl),HB3.o⟩
   | true =>
    have HF:Hid (isTriple ⟨⟨k1,x1,y1⟩,⟨k2,x2,y2⟩,⟨k3,x3,y3⟩⟩ = (((k1 == 1) || (k1 == 2)) && (k2 == 1))):=Zz (by
     have hk:=HK.o (by first | rfl | trivial);rw [HI.o];simp only [Bool.true_and];congr 1;rw [Bool.eq_iff_iff];simp;omega)
    clear HI HK;obtain ⟨q1,hq1⟩:∃ q:Bool,(k1 == 1) = q:=⟨_,rfl⟩;obtain ⟨q2,hq2⟩:∃ q:Bool,(k1 == 2) = q:=⟨_,rfl⟩;obtain ⟨q3,hq3⟩:∃ q:Bool,(k2 == 1) = q:=⟨_,rfl⟩;rw [hq1,hq2,hq3] at HF;cases q1
    all_goals cases q2
    all_goals cases q3
    all_goals go_wp2
    all_goals go_ret
    all_goals exact ⟨ret_bool (by rw [HF.o];rfl),HB3.o⟩
end Prg
namespace Prg
open Go.RowKit Go.Lib B Rd Utf TermPure LinesPure Tx Env Bld Tc
open Go.Proofs.YtnplommdgfgboaaGreatDoor.Ref5 (termV Fits tripleV FitsT isTriple_eq two_zero up_len run_fst_len run_snd_len low_len zeroTr T9 oneV FitsO Next)
theorem next_is (l:List UInt8) (hv:validD l = true) (hne:l ≠ []):(((decodeL l).1:Int) == 60) = ([60]:List UInt8).isPrefixOf l:=by
 rcases Utf.step l hne hv with ⟨b,t,rfl,hb,hd,ht⟩ | ⟨ch,t,c,hc⟩
 ·
  rw [hd];show ((b.toNat:Int) == 60) = ((60:UInt8) == b && true);rw [Bool.and_true,Bool.eq_iff_iff,beq_iff_eq,beq_iff_eq];constructor
  ·
   intro h;exact UInt8.toNat_inj.1 (by show 60 = b.toNat;omega)
  ·
   rintro rfl;rfl
 ·
  rw [hc.dec];have h128:=hc.ge;have h2:=hc.two;obtain ⟨b,ch',rfl⟩:∃ b ch',ch = b :: ch':=by cases ch with
   | nil=>simp at h2
   | cons b ch'=>exact ⟨b,ch',rfl⟩
  have hb:=hc.high b (by simp);have e1:(((c:Nat):Int) == 60) = false:=by rw [Zb];omega
  have e2:((60:UInt8) == b) = false:=by rw [Zb];rintro rfl;exact absurd hb (by decide)
  rw [hc.eq];show (((c:Nat):Int) == 60) = ((60:UInt8) == b && _);rw [e1,e2,Bool.false_and]
theorem literal_extra (l:List UInt8):∀ t q,literal false l = some (t,q) -> t.extra.length <= l.length:=by
 intro t q h;rw [literal] at h;cases hu:up 34 true true l with
 | none=>rw [hu] at h;cases h
 | some p =>
  obtain ⟨x,r⟩:=p;have h1:=up_len 34 true true l.length l (lR _) x r hu;rw [hu] at h;dsimp only at h
  split at h
  ·
   cases h;dsimp only;rw [low_len];have:=run_fst_len true (r.drop 1);rw [Zj] at this;omega
  ·
   split at h
   ·
    split at h
    ·
     cases hv:up 62 false false (r.drop 3) with
     | none=>rw [hv] at h;cases h
     | some p2 =>
      obtain ⟨e,y⟩:=p2;have h2:=up_len 62 false false _ (r.drop 3) (lR _) e y hv;rw [hv] at h;cases h;rw [Zj] at h2;dsimp only;omega
    ·
     cases h
   ·
    cases h;simp
def PRaw (w:World) (rb g2 g3:Nat) (l:List UInt8) (wx:World):Prop:=
 ∃ t:Term,TC wx g3 0 t/\TC wx g2 0 zeroT/\Env wx /\
  ((rawTerm false l = none/\∃ s,Step w wx rb s true) \/ (∃ q,Step w wx rb q false/\validD q = true/\Fits t/\t.extra.length <= 1000000/\(rawTerm false l = some (t,q) \/ (rawTerm false l = none/\is t = false))))
theorem term_calls (rb:Nat) (l:List UInt8) (hll:l.length <= 1000000) (hv:validD l = true) (w:World) (he:Env w) (hrb:lowB <= rb) (h:At w rb l false) :
  Calls Tryz.prog 131 #[.pointer (some ⟨rb,0,none⟩)] w fun e w'=>PTermPost w rb (term false l) e w':=by
 have hlt:=h.lt;have HS0:=Zz (((Step.refl h).alloc (.cells #[.int .i64 0,.string (mkS []),.string (mkS [])] 24)).alloc (.cells #[.int .i64 0,.string (mkS []),.string (mkS [])] 24));have HT:=Zz (two_zero (w:=w));have T2:=Zz (HT.o w rfl).1;have T3:=Zz (HT.o w rfl).2;have HE0:=Zz (he.below (bel_alloc (bel_alloc (bR _ _) (.cells #[.int .i64 0,.string (mkS []),.string (mkS [])] 24)) (.cells #[.int .i64 0,.string (mkS []),.string (mkS [])] 24)));have HV:=Zz hv;have hlow:=he.low;have hn2:¬ w.heap.size = rb:=by omega
 have hn3:¬ w.heap.size + 1 = rb:=by omega
 have hz3:w.heap.size < w.heap.size + 1:=by omega
 have HR:Hid (rawTerm false l = if ([60]:List UInt8).isPrefixOf l = true then (up 62 false false (l.drop 1)).map fun x=>(⟨1,x.1,[]⟩,x.2)
  else if ([95,58]:List UInt8).isPrefixOf l = true then some (⟨2,(run false (l.drop 2)).1,[]⟩,(run false (l.drop 2)).2)
  else if ([34]:List UInt8).isPrefixOf l = true then literal false (l.drop 1)
  else none):=Zz rfl
 clear h he hv;go_enter func131,ntmps131;go_upto_block 0 with fail;go_cut [] (fun wx=>Hid (PRaw w rb w.heap.size (w.heap.size + 1) l wx))
 case first =>
  go_upto_region 2 with fail
  go_cut [4] (fun v4 wx=>v4 = .bool (([60]:List UInt8).isPrefixOf l)/\Hid (Step w wx rb l false)/\Hid (TC wx w.heap.size 0 zeroT)/\Hid (TC wx (w.heap.size + 1) 0 zeroT)/\Hid (Env wx))
  case first =>
   by_cases hne:l = []
   ·
    subst hne;go_wp2_with fail;refine (next_end_calls rb [] false (.inr rfl) _ HS0.o.at').mono ?_;rintro e w1 ⟨rfl,rfl⟩;go_wp2;go_meet;exact ⟨rfl,HS0,T2,T3,HE0⟩
   ·
    have hni:=next_is l HV.o hne;have HNx:=Zz (next_calls rb l hne _ HE0.o HS0.o.at');generalize (decodeL l).1 = c at *;go_wp2_with fail;refine HNx.o.mono ?_;rintro e w1 ⟨rfl,hb1⟩;have HS1:=Zz (HS0.o.below hb1);have U2:=Zz (T2.o.below hb1);have U3:=Zz (T3.o.below hb1);have HE1:=Zz (HE0.o.below hb1);have HNi:=Zz hni;obtain ⟨q,hq⟩:∃ q,((c:Int) == 60) = q:=⟨_,rfl⟩;rw [hq] at HNi;clear hb1 hni;cases q
    all_goals go_wp2
    all_goals go_meet
    all_goals exact ⟨by rw [<- HNi.o],HS1,U2,U3,HE1⟩
  case rest =>
   obtain ⟨rfl,HS1,U2,U3,HE1⟩:=hcut;clear HS0 T2 T3 HE0;cases c1:([60]:List UInt8).isPrefixOf l with
   | true =>
    have HD:=Zz (HR.o.trans (if_pos c1));have HI:=Zz (iri_calls rb l HV.o _ HE1.o hrb HS1.o.at');rw [if_pos c1] at HI;have UL2:=up_len 62 false false (l.drop 1).length (l.drop 1) (lR _);have hdl:(l.drop 1).length <= l.length:=by simp
    clear c1 HR;generalize up 62 false false (l.drop 1) = R at *;go_wp2_with fail;refine HI.o.mono ?_;intro e w2 hp;cases R with
    | none =>
     obtain ⟨o,s,rfl,hs2⟩:=hp;have HS2:=Zz (HS1.o.trans hs2);have W2:=Zz (U2.o.grown hs2.grown hn2);have W3:=Zz (U3.o.grown hs2.grown hn3);have HE2:=Zz (HE1.o.step hs2 hrb);clear hs2;obtain ⟨k0,k1,k2,k3,k4,k5⟩:=W3.o;simp only [Nat.zero_add] at k1 k2 k4 k5;go_wp2;go_meet;refine Zz ⟨⟨1,o,[]⟩,W3.o.set ⟨1,o,[]⟩,((W2.o.other (Nat.ne_of_lt hz3) _).other (Nat.ne_of_lt hz3) _).other (Nat.ne_of_lt hz3) _,((HE2.o.set (by omega) _).set (by omega) _).set (by omega) _,.inl ⟨HD.o,s,((HS2.o.other (by omega) (by omega) _).other (by omega) (by omega) _).other (by omega) (by omega) _⟩⟩
    | some p2 =>
     obtain ⟨o,q⟩:=p2;have hol:=UL2 o q rfl;obtain ⟨rfl,hs2,hvq⟩:=hp;have HVq:=Zz hvq;clear hvq;have HS2:=Zz (HS1.o.trans hs2);have W2:=Zz (U2.o.grown hs2.grown hn2);have W3:=Zz (U3.o.grown hs2.grown hn3);have HE2:=Zz (HE1.o.step hs2 hrb);clear hs2;obtain ⟨k0,k1,k2,k3,k4,k5⟩:=W3.o;simp only [Nat.zero_add] at k1 k2 k4 k5;go_wp2;go_meet;refine Zz ⟨⟨1,o,[]⟩,W3.o.set ⟨1,o,[]⟩,((W2.o.other (Nat.ne_of_lt hz3) _).other (Nat.ne_of_lt hz3) _).other (Nat.ne_of_lt hz3) _,((HE2.o.set (by omega) _).set (by omega) _).set (by omega) _,.inr ⟨q,((HS2.o.other (by omega) (by omega) _).other (by omega) (by omega) _).other (by omega) (by omega) _,HVq.o,⟨by simp,by simp;omega,by simp⟩,by simp,.inl HD.o⟩⟩
   | false =>
    replace HR:=Zz (HR.o.trans (if_neg (by rw [c1];decide)))
    clear c1;have M2:=Zz (valid_drop [95,58] (by decide) l);have M3:=Zz (valid_drop [34] (by decide) l);go_wp2_with fail;refine (is_calls rb l [95,58] _ HS1.o.at').mono ?_;rintro e w2 ⟨rfl,hs2⟩;have HS2:=Zz (HS1.o.trans hs2);have U2:=Zz (U2.o.grown hs2.grown hn2);have U3:=Zz (U3.o.grown hs2.grown hn3);have HE2:=Zz (HE1.o.step hs2 hrb);clear hs2;cases c2:([95,58]:List UInt8).isPrefixOf l with
    | true =>
     have HD:=Zz (HR.o.trans (if_pos c2));have HVq:=Zz (M2.o c2 HV.o);rw [c2] at HS2;simp only [if_true,Zc,List.length_nil,Nat.zero_add,Nat.reduceAdd] at HS2 HVq;have hql:(l.drop 2).length <= l.length:=by simp
     clear c2 HR M2 M3;generalize l.drop 2 = q at *;go_wp2_with fail;refine (while_calls rb q _ false tells_plain _ HS2.o.at').mono ?_;rintro e w3 ⟨rfl,hs2⟩;have HS3:=Zz (HS2.o.trans hs2);have U2:=Zz (U2.o.grown hs2.grown hn2);have U3:=Zz (U3.o.grown hs2.grown hn3);have HE3:=Zz (HE2.o.step hs2 hrb);clear hs2;have hr1:=run_fst_len false q;have HVr:=Zz (run_valid false q HVq.o);generalize run false q = pr at *;obtain ⟨ru,rq⟩:=pr;dsimp only at *;obtain ⟨k0,k1,k2,k3,k4,k5⟩:=U3.o;simp only [Nat.zero_add] at k1 k2 k4 k5;go_wp2;go_meet;refine Zz ⟨⟨2,ru,[]⟩,U3.o.set ⟨2,ru,[]⟩,((U2.o.other (Nat.ne_of_lt hz3) _).other (Nat.ne_of_lt hz3) _).other (Nat.ne_of_lt hz3) _,((HE3.o.set (by omega) _).set (by omega) _).set (by omega) _,.inr ⟨rq,((HS3.o.other (by omega) (by omega) _).other (by omega) (by omega) _).other (by omega) (by omega) _,HVr.o,⟨by simp,by simp;omega,by simp⟩,by simp,.inl HD.o⟩⟩
    | false =>
     replace HR:=Zz (HR.o.trans (if_neg (by rw [c2];decide)))
     rw [c2] at HS2;simp only [Bool.false_eq_true,if_false] at HS2;clear c2 M2;go_wp2_with fail;refine (is_calls rb l [34] _ HS2.o.at').mono ?_;rintro e w3 ⟨rfl,hs2⟩;have HS3:=Zz (HS2.o.trans hs2);have U2:=Zz (U2.o.grown hs2.grown hn2);have U3:=Zz (U3.o.grown hs2.grown hn3);have HE3:=Zz (HE2.o.step hs2 hrb);clear hs2;cases c3:([34]:List UInt8).isPrefixOf l with
     | true =>
      have HD:=Zz (HR.o.trans (if_pos c3));have HVq:=Zz (M3.o c3 HV.o);rw [c3] at HS3;simp only [if_true,Zc,List.length_nil,Nat.zero_add] at HS3 HVq;have hql:(l.drop 1).length <= l.length:=by simp
      have HLE:=Zz (literal_extra (l.drop 1));clear c3 HR M3;generalize l.drop 1 = q at *;go_wp2_with fail;refine (literal_calls rb q HVq.o _ HE3.o hrb HS3.o.at').mono ?_;intro e w4 hp;generalize literal false q = R at *;cases R with
      | none =>
       obtain ⟨⟨⟨tk,tx,te⟩,rfl⟩,s,hs2⟩:=hp;unfold termV;have HS4:=Zz (HS3.o.trans hs2);have U2:=Zz (U2.o.grown hs2.grown hn2);have U3:=Zz (U3.o.grown hs2.grown hn3);have HE4:=Zz (HE3.o.step hs2 hrb);clear hs2;obtain ⟨k0,k1,k2,k3,k4,k5⟩:=U3.o;simp only [Nat.zero_add] at k1 k2 k4 k5;go_wp2;go_meet;refine Zz ⟨⟨tk,tx,te⟩,U3.o.set ⟨tk,tx,te⟩,((U2.o.other (Nat.ne_of_lt hz3) _).other (Nat.ne_of_lt hz3) _).other (Nat.ne_of_lt hz3) _,((HE4.o.set (by omega) _).set (by omega) _).set (by omega) _,.inl ⟨HD.o,s,((HS4.o.other (by omega) (by omega) _).other (by omega) (by omega) _).other (by omega) (by omega) _⟩⟩
      | some p2 =>
       obtain ⟨⟨tk,tx,te⟩,y⟩:=p2;obtain ⟨⟨rfl,hft⟩,hs2,hvy⟩:=hp;have HFt:=Zz hft;have HVy:=Zz hvy;have HX:=Zz (HLE.o _ _ rfl);unfold termV;clear hft hvy;have HS4:=Zz (HS3.o.trans hs2);have U2:=Zz (U2.o.grown hs2.grown hn2);have U3:=Zz (U3.o.grown hs2.grown hn3);have HE4:=Zz (HE3.o.step hs2 hrb);clear hs2;obtain ⟨k0,k1,k2,k3,k4,k5⟩:=U3.o;simp only [Nat.zero_add] at k1 k2 k4 k5;go_wp2;go_meet;refine Zz ⟨⟨tk,tx,te⟩,U3.o.set ⟨tk,tx,te⟩,((U2.o.other (Nat.ne_of_lt hz3) _).other (Nat.ne_of_lt hz3) _).other (Nat.ne_of_lt hz3) _,((HE4.o.set (by omega) _).set (by omega) _).set (by omega) _,.inr ⟨y,((HS4.o.other (by omega) (by omega) _).other (by omega) (by omega) _).other (by omega) (by omega) _,HVy.o,HFt.o,by have:=HX.o;dsimp only at this |-;omega,.inl HD.o⟩⟩
     | false =>
      replace HR:=Zz (HR.o.trans (if_neg (by rw [c3];decide)))
      rw [c3] at HS3;simp only [Bool.false_eq_true,if_false] at HS3;clear c3 M3;go_wp2;go_meet;exact Zz ⟨zeroT,U3.o,U2.o,HE3.o,.inr ⟨l,HS3.o,HV.o,⟨by decide,by decide,by decide⟩,by decide,.inr ⟨HR.o,rfl⟩⟩⟩
 case rest =>
  obtain ⟨⟨tk,tx,te⟩,h3,h2,he2,hcase⟩:=hcut.o;have hz2:=h3.lt;have HT3:=Zz h3;have HT2:=Zz h2;have HE2:=Zz he2;clear hcut h3 h2 he2 HR T2 T3 HS0 HE0 HT;rcases hcase with ⟨hd,s,hs⟩ | ⟨q,hs,hvq,hft,hex,hd⟩
  ·
   have HD:=Zz (show term false l = none by rw [term,hd]);have HS:=Zz hs;obtain ⟨a0,a1,b0,b1,_⟩:=hs.at';clear hd hs;obtain ⟨k0,k1,k2,k3,k4,k5⟩:=HT3.o;simp only [Nat.zero_add] at k1 k2 k4 k5;obtain ⟨m0,m1,m2,m3,m4,m5⟩:=HT2.o;simp only [Nat.zero_add] at m1 m2 m4 m5;dsimp only [zeroT] at *;go_wp2;refine bodyPost_ret (v:=termV ⟨tk,tx,te⟩) (by simp [results,Tryz.results131,go_sem,hn2,hn3,m0,m1,m2,termV,mkS_nil]) rfl ?_;rw [show term false l = none from HD.o];refine ⟨⟨_,rfl⟩,s,?_⟩;clear k0 k1 k2 k3 k4 k5;clear m0 m1 m2 m3 m4 m5
   repeat first | exact HS.o.set1 true | exact HS.o | refine Step.other ?_ (by omega) (by omega) _
  ·
   have HS:=Zz hs;have HVq:=Zz hvq;have HFt:=Zz hft;have HD:Hid (term false l = if is ⟨tk,tx,te⟩ = true then some (⟨tk,tx,te⟩,q) else none):=Zz (by
    rcases hd with hd | ⟨hd,hi⟩
    ·
     rw [term,hd]
    ·
     rw [term,hd,hi];rfl)
   have HPi:=Zz (pis_calls ⟨tk,tx,te⟩ hft (by dsimp only at hex |-;omega));obtain ⟨a0,a1,b0,b1,_⟩:=hs.at';clear hd hs hvq hft hex;obtain ⟨k0,k1,k2,k3,k4,k5⟩:=HT3.o;simp only [Nat.zero_add] at k1 k2 k4 k5;obtain ⟨m0,m1,m2,m3,m4,m5⟩:=HT2.o;simp only [Nat.zero_add] at m1 m2 m4 m5;dsimp only [zeroT] at *;go_wp2_with fail;refine (HPi.o _ HE2.o).mono ?_;rintro e w3 ⟨rfl,hb3⟩;have HS3:=Zz (HS.o.below hb3);have HU3:=Zz (HT3.o.below hb3);have HU2:=Zz (HT2.o.below hb3);clear hb3 a0 a1 b0 b1;clear k0 k1 k2 k3 k4 k5;clear m0 m1 m2 m3 m4 m5;obtain ⟨a0,a1,b0,b1,_⟩:=HS3.o.at';obtain ⟨k0,k1,k2,k3,k4,k5⟩:=HU3.o;simp only [Nat.zero_add] at k1 k2 k4 k5;obtain ⟨m0,m1,m2,m3,m4,m5⟩:=HU2.o;simp only [Nat.zero_add] at m1 m2 m4 m5;dsimp only at *;cases hi:is ⟨tk,tx,te⟩ with
   | true =>
    have HD1:=Zz (HD.o.trans (if_pos hi));clear hi HD;go_wp2;refine bodyPost_ret (v:=termV ⟨tk,tx,te⟩) (by simp [results,Tryz.results131,go_sem,hn2,hn3,m0,m1,m2,termV,mkS_nil]) rfl ?_;rw [show term false l = some (⟨tk,tx,te⟩,q) from HD1.o];refine ⟨⟨rfl,HFt.o⟩,?_,HVq.o⟩;clear k0 k1 k2 k3 k4 k5;clear m0 m1 m2 m3 m4 m5
    repeat first | exact HS3.o | refine Step.other ?_ (by omega) (by omega) _
   | false =>
    have HD1:=Zz (HD.o.trans (if_neg (by rw [hi];decide)));clear hi HD;go_wp2;refine bodyPost_ret (v:=termV ⟨tk,tx,te⟩) (by simp [results,Tryz.results131,go_sem,hn2,hn3,m0,m1,m2,termV,mkS_nil]) rfl ?_;rw [show term false l = none from HD1.o];refine ⟨⟨_,rfl⟩,q,?_⟩;clear k0 k1 k2 k3 k4 k5;clear m0 m1 m2 m3 m4 m5
    repeat first | exact HS3.o.set1 true | exact HS3.o | refine Step.other ?_ (by omega) (by omega) _
end Prg
namespace Prg
open Go.RowKit Go.Lib B Rd Utf TermPure LinesPure Tx Env Bld Tc
open Go.Proofs.YtnplommdgfgboaaGreatDoor.Ref5 (termV Fits tripleV FitsT isTriple_eq two_zero up_len run_fst_len run_snd_len low_len zeroTr T9 oneV FitsO one_by lineEnd)
theorem term_bad_calls (rb:Nat) (l:List UInt8) (w:World) (h:At w rb l true) :
  Calls Tryz.prog 131 #[.pointer (some ⟨rb,0,none⟩)] w fun e w'=>(∃ t:Term,e = .returned (termV t))/\Step w w' rb l true:=by
 have hlt:=h.lt;have HT:=Zz (two_zero (w:=w) w rfl);have HS0:=Zz (((Step.refl h).alloc (.cells #[.int .i64 0,.string (mkS []),.string (mkS [])] 24)).alloc (.cells #[.int .i64 0,.string (mkS []),.string (mkS [])] 24));have hn2:¬ w.heap.size = rb:=by omega
 have hn3:¬ w.heap.size + 1 = rb:=by omega
 obtain ⟨a0,a1,b0,b1,_⟩:=h;go_enter func131,ntmps131;go_wp2_with fail;refine (next_end_calls rb l true (.inl rfl) _ HS0.o.at').mono ?_;rintro e w2 ⟨rfl,rfl⟩;go_wp2_with fail;refine (is_bad_calls rb l [95,58] _ HS0.o.at').mono ?_;rintro e w2 ⟨rfl,rfl⟩;go_wp2_with fail;refine (is_bad_calls rb l [34] _ HS0.o.at').mono ?_;rintro e w2 ⟨rfl,rfl⟩;go_wp2;refine bodyPost_ret (v:=termV zeroT) (by simp [results,Tryz.results131,go_sem,hn2,hn3,termV,mkS_nil,zeroT]) rfl ?_;refine ⟨⟨zeroT,rfl⟩,?_⟩
 repeat first | exact HS0.o.set1 true | exact HS0.o | exact ((Step.refl ⟨a0,a1,b0,b1,by assumption⟩).set1 true) | refine Step.alloc ?_ _ | refine Step.other ?_ (by omega) (by omega) _
def PSt (w w':World) (rb:Nat) (st:Option (List UInt8)):Prop:=match st with
 | none=>∃ s,Step w w' rb s true
 | some l=>Step w w' rb l false/\validD l = true/\l.length <= 1000000
theorem PSt.grown {w w':World} {rb:Nat} {st:Option (List UInt8)} (h:PSt w w' rb st):w.grownBy w' (some rb):=by
 cases st with
 | none=>obtain ⟨s,hs⟩:=h;exact hs.grown
 | some l=>exact h.1.grown
theorem PSt.alloc {a b:World} {rb:Nat} {s:Option (List UInt8)} (h:PSt a b rb s) (o:Obj):PSt a (b.alloc o) rb s:=by
 cases s with
 | none=>obtain ⟨x,hx⟩:=h;exact ⟨x,hx.alloc o⟩
 | some l=>exact ⟨h.1.alloc o,h.2⟩
theorem PSt.other {a b:World} {rb g j:Nat} {s:Option (List UInt8)} (h:PSt a b rb s) (hg:a.heap.size <= g) (hne:g ≠ rb) (u:Value):PSt a (b.setCell ⟨g,j,none⟩ u) rb s:=by
 cases s with
 | none=>obtain ⟨x,hx⟩:=h;exact ⟨x,hx.other hg hne u⟩
 | some l=>exact ⟨h.1.other hg hne u,h.2⟩
def PNext (st:Option (List UInt8)) (t:Term) (st':Option (List UInt8)):Prop:=match st with
 | none=>st' = none
 | some s=>match term false s with
  | none=>st' = none
  | some (t0,q)=>t = t0/\st' = some q
theorem PNext.next {st st':Option (List UInt8)} {t:Term} (h:PNext st t st'):Ref5.Next false st t (st'.map blanks):=by
 cases st with
 | none=>unfold PNext at h;subst h;rfl
 | some s =>
  unfold PNext at h;unfold Ref5.Next;dsimp only at h |-;cases ht:term false s with
  | none=>rw [ht] at h;dsimp only at h;subst h;rfl
  | some p =>
   obtain ⟨t0,q⟩:=p;rw [ht] at h;obtain ⟨rfl,rfl⟩:=h;exact ⟨rfl,rfl⟩
theorem raw_len (l:List UInt8) (t:Term) (q:List UInt8) (h:rawTerm false l = some (t,q)):q.length <= l.length:=by
 unfold rawTerm at h
 split at h
 ·
  cases hu:up 62 false false (l.drop 1) with
  | none=>rw [hu] at h;cases h
  | some p =>
   obtain ⟨o,r⟩:=p;rw [hu] at h;cases h;have:=up_len 62 false false _ (l.drop 1) (lR _) o _ hu;dsimp only at this |-;rw [Zj] at this;omega
 ·
  split at h
  ·
   cases h;have:=run_snd_len false (l.drop 2);rw [Zj] at this;omega
  ·
   split at h
   ·
    have:q.length <= (l.drop 1).length:=by
     rw [literal] at h;cases hu:up 34 true true (l.drop 1) with
     | none=>rw [hu] at h;cases h
     | some p =>
      obtain ⟨x,r⟩:=p;have h1:=up_len 34 true true _ (l.drop 1) (lR _) x r hu;rw [hu] at h;dsimp only at h
      split at h
      ·
       cases h;have:=run_snd_len true (r.drop 1);rw [Zj] at this;omega
      ·
       split at h
       ·
        split at h
        ·
         cases hv:up 62 false false (r.drop 3) with
         | none=>rw [hv] at h;cases h
         | some p2 =>
          obtain ⟨e,y⟩:=p2;have h2:=up_len 62 false false _ (r.drop 3) (lR _) e y hv;rw [hv] at h;cases h;rw [Zj] at h2;dsimp only;omega
        ·
         cases h
       ·
        cases h;omega
    rw [Zj] at this;omega
   ·
    cases h
theorem term_len (l:List UInt8) (t:Term) (q:List UInt8) (h:term false l = some (t,q)):q.length <= l.length:=by
 rw [term] at h;cases hr:rawTerm false l with
 | none=>rw [hr] at h;cases h
 | some p =>
  obtain ⟨t',q'⟩:=p;rw [hr] at h;dsimp only at h
  split at h
  ·
   cases h;exact raw_len l t q hr
  ·
   cases h
def FitsX (t:Term):Prop:=Fits t/\t.extra.length <= 1000000
theorem raw_extra (l:List UInt8) (t:Term) (q:List UInt8) (h:rawTerm false l = some (t,q)):t.extra.length <= l.length:=by
 unfold rawTerm at h
 split at h
 ·
  cases hu:up 62 false false (l.drop 1) with
  | none=>rw [hu] at h;cases h
  | some p =>
   rw [hu] at h;cases h;simp
 ·
  split at h
  ·
   cases h;simp
  ·
   split at h
   ·
    have:=literal_extra (l.drop 1) t q h;rw [Zj] at this;omega
   ·
    cases h
theorem term_extra (l:List UInt8) (t:Term) (q:List UInt8) (h:term false l = some (t,q)):t.extra.length <= l.length:=by
 rw [term] at h;cases hr:rawTerm false l with
 | none=>rw [hr] at h;cases h
 | some p =>
  obtain ⟨t',q'⟩:=p;rw [hr] at h;dsimp only at h
  split at h
  ·
   cases h;exact raw_extra l t q hr
  ·
   cases h
theorem term_any_calls (w0:World) (rb:Nat) (st:Option (List UInt8)) (w:World) (he:Env w) (hrb:lowB <= rb) (h:PSt w0 w rb st) :
  Calls Tryz.prog 131 #[.pointer (some ⟨rb,0,none⟩)] w fun e w'=>∃ t st',(e = .returned (termV t)/\(st' ≠ none -> FitsX t))/\(PSt w0 w' rb st'/\w.grownBy w' (some rb))/\PNext st t st':=by
 cases st with
 | none =>
  obtain ⟨s,hs⟩:=h;refine (term_bad_calls rb s w hs.at').mono ?_;rintro e w' ⟨⟨t,h1⟩,h3⟩;exact ⟨t,none,⟨h1,fun h=>absurd rfl h⟩,⟨⟨s,hs.trans h3⟩,h3.grown⟩,rfl⟩
 | some l =>
  obtain ⟨hs,hv,hl⟩:=h;refine (term_calls rb l hl hv w he hrb hs.at').mono ?_;intro e w' hp;unfold PNext;dsimp only;cases ht:term false l with
  | none =>
   rw [ht] at hp;obtain ⟨⟨t,h1⟩,s,h3⟩:=hp;exact ⟨t,none,⟨h1,fun h=>absurd rfl h⟩,⟨⟨s,hs.trans h3⟩,h3.grown⟩,rfl⟩
  | some p =>
   obtain ⟨t,q⟩:=p;rw [ht] at hp;obtain ⟨⟨h1,h2⟩,h3,h4⟩:=hp;exact ⟨t,some q,⟨h1,fun _=>⟨h2,Zh (term_extra l t q ht) hl⟩⟩,⟨⟨hs.trans h3,h4,Zh (term_len l t q ht) hl⟩,h3.grown⟩,rfl,rfl⟩
theorem blanks_any_calls (w0:World) (rb:Nat) (st:Option (List UInt8)) (w:World) (h:PSt w0 w rb st) :
  Calls Tryz.prog 129 #[.pointer (some ⟨rb,0,none⟩)] w fun e w'=>e = .returned (.tuple #[])/\PSt w0 w' rb (st.map blanks)/\w.grownBy w' (some rb):=by
 cases st with
 | none =>
  obtain ⟨s,hs⟩:=h;refine (pblanks_bad_calls rb s w hs.at').mono ?_;rintro e w' ⟨h1,rfl⟩;exact ⟨h1,⟨s,hs⟩,World.grownBy.refl _ _⟩
 | some l =>
  obtain ⟨hs,hv,hl⟩:=h;refine (pblanks_calls rb l w hs.at').mono ?_;rintro e w' ⟨h1,h2⟩;exact ⟨h1,⟨hs.trans h2,blanks_valid l hv,Zh (List.Sublist.length_le (List.dropWhile_sublist _)) hl⟩,h2.grown⟩
theorem over_any_calls (w0:World) (rb:Nat) (st:Option (List UInt8)) (w:World) (h:PSt w0 w rb st) :
  Calls Tryz.prog 130 #[.pointer (some ⟨rb,0,none⟩)] w fun e w'=>e = .returned (.bool (st.any over))/\w = w':=by
 cases st with
 | none =>
  obtain ⟨s,hs⟩:=h;exact (over_calls rb s true w hs.at').mono fun e w' h=>h
 | some l=>exact (over_calls rb l false w h.1.at').mono fun e w' h=>h
def dot (st:Option (List UInt8)):Option (List UInt8):=match st with
 | none=>none
 | some r=>if ([46]:List UInt8).isPrefixOf r = true then some (r.drop 1) else none
theorem dot_any_calls (w0:World) (rb:Nat) (st:Option (List UInt8)) (w:World) (h:PSt w0 w rb st) :
  Calls Tryz.prog 132 #[.pointer (some ⟨rb,0,none⟩),.string (mkS [46])] w fun e w'=>e = .returned (.tuple #[])/\PSt w0 w' rb (dot st)/\w.grownBy w' (some rb):=by
 cases st with
 | none =>
  obtain ⟨s,hs⟩:=h;refine (must_bad_calls rb s [46] w hs.at').mono ?_;rintro e w' ⟨h1,h2⟩;exact ⟨h1,⟨s,hs.trans h2⟩,h2.grown⟩
 | some l =>
  obtain ⟨hs,hv,hl⟩:=h;refine (must_calls rb l [46] w hs.at').mono ?_;rintro e w' ⟨h1,h2⟩;unfold dot;dsimp only;cases hp:([46]:List UInt8).isPrefixOf l with
  | true =>
   rw [hp] at h2;exact ⟨h1,⟨hs.trans h2,valid_drop [46] (by decide) l hp hv,by simp;omega⟩,h2.grown⟩
  | false =>
   rw [hp] at h2;exact ⟨h1,⟨_,hs.trans h2⟩,h2.grown⟩
end Prg
namespace Prg
open Go.RowKit Go.Lib B Rd Utf TermPure LinesPure Tx Env Bld Tc
open Go.Proofs.YtnplommdgfgboaaGreatDoor.Ref5 (termV Fits tripleV FitsT isTriple_eq two_zero zeroTr T9 oneV FitsO one_by lineEnd)
theorem T9.newA (w:World) (t:Triple):T9 (w.alloc (.cells #[.int .i64 t.s.kind,.string (mkS t.s.text),.string (mkS t.s.extra),.int .i64 t.p.kind,.string (mkS t.p.text),.string (mkS t.p.extra),.int .i64 t.o.kind,.string (mkS t.o.text),.string (mkS t.o.extra)] 171)) w.heap.size t:=by
 constructor <;> constructor
 all_goals first | (unfold World.cell?;dsimp only;rw [Kd.heap_new];rfl) | (unfold World.frozen?;dsimp only;rw [Kd.heap_new];rfl)
theorem T9.setS {W:World} {g:Nat} {a0 p0 o0:Term} (h:T9 W g ⟨a0,p0,o0⟩) (a:Term):T9 (((W.setCell ⟨g,0,none⟩ (.int .i64 a.kind)).setCell ⟨g,1,none⟩ (.string (mkS a.text))).setCell ⟨g,2,none⟩ (.string (mkS a.extra))) g ⟨a,p0,o0⟩:=
 ⟨h.s.set a,((h.p.apart (by decide) (by decide) (by decide) _).apart (by decide) (by decide) (by decide) _).apart (by decide) (by decide) (by decide) _,
  ((h.o.apart (by decide) (by decide) (by decide) _).apart (by decide) (by decide) (by decide) _).apart (by decide) (by decide) (by decide) _⟩
theorem bel_seen {w0 w w':World} {rb:Nat} (h:w.grownBy w' (some rb)) (hb:Below w0.heap.size w0 w) (hr:w0.heap.size <= rb):Below w0.heap.size w0 w':=
 ⟨h.os.trans hb.os,h.tape.trans hb.tape,h.output.trans hb.output,Zh hb.size h.size,fun k hk=>(h.block k (Nat.lt_of_lt_of_le hk hb.size) (by simp;omega)).trans (hb.block k hk)⟩
theorem end_no (t:Triple) (st:Option (List UInt8)) (h:((dot st).map blanks).any over = false):lineEnd t st = none:=by
 cases st with
 | none=>rfl
 | some r =>
  unfold lineEnd;dsimp only;apply if_neg;rintro ⟨h1,h2,_⟩;unfold dot at h;dsimp only at h;rw [if_pos h1] at h;have h':over (blanks (r.drop 1)) = false:=h;rw [h2] at h';cases h'
theorem end_yes (t:Triple) (st:Option (List UInt8)) (h:((dot st).map blanks).any over = true):st ≠ none/\lineEnd t st = if isTriple t = true then some (some t) else none:=by
 cases st with
 | none=>cases h
 | some r =>
  refine ⟨by simp,?_⟩;unfold dot at h;dsimp only at h
  split at h
  ·
   rename_i h1
   have h2:over (blanks (r.drop 1)) = true:=h;unfold lineEnd;dsimp only;rw [h1,h2];simp
  ·
   cases h
def Chain (st0:Option (List UInt8)) (k:Nat) (a p o:Term) (st:Option (List UInt8)):Prop:=
 (k = 0/\st = st0) \/ (k = 1/\Ref5.Next false st0 a st/\(st ≠ none -> FitsX a)) \/
 (k = 2/\∃ s1,Ref5.Next false st0 a s1/\Ref5.Next false s1 p st/\(st ≠ none -> FitsX a/\FitsX p)) \/
 (k = 3/\∃ s1 s2,Ref5.Next false st0 a s1/\Ref5.Next false s1 p s2/\Ref5.Next false s2 o st/\(st ≠ none -> FitsX a/\FitsX p/\FitsX o))
theorem next_none {t:Term} {st st':Option (List UInt8)} (h:Ref5.Next false st t st') (hn:st' ≠ none):st ≠ none:=by
 intro e;subst e;exact hn h
theorem one_calls (s:List UInt8) (hs:s.length <= 1000000) (w:World) (he:Env w) :
  Calls Tryz.prog 87 #[.string (mkS s)] w fun e w'=>(e = .returned (oneV (lineOf false s))/\FitsO (lineOf false s))/\Below w.heap.size w w':=by
 have hlow:=he.low;have HB0:=Zz (bel_alloc (bR w.heap.size w) (.cells #[.int .i64 0,.string (mkS []),.string (mkS []),.int .i64 0,.string (mkS []),.string (mkS []),.int .i64 0,.string (mkS []),.string (mkS [])] 36));have HT0:=Zz (T9.new w zeroTr);have HE0:=Zz (he.below HB0.o);clear he;go_enter func87,ntmps87;go_wp2_with fail;refine (valid_calls s (by omega) _ HE0.o).mono ?_;rintro e w1 ⟨rfl,hb1⟩;have HB1:=Zz (bel_step HB0.o hb1);have HT1:=Zz (HT0.o.below hb1);have HE1:=Zz (HE0.o.below hb1);have hz1:w.heap.size < w1.heap.size:=HT1.o.s.lt;have hrb:lowB <= w1.heap.size:=by omega
 have hn2:¬ w.heap.size = w1.heap.size:=by omega
 clear hb1;obtain ⟨v,hv⟩:∃ v,validD s = v:=⟨_,rfl⟩;have HV:=Zz hv;rw [hv];clear hv;have HB2:=Zz (bel_alloc HB1.o (.cells #[.string (mkS s),.bool (!v)] 180));have HT2:=Zz (HT1.o.alloc (.cells #[.string (mkS s),.bool (!v)] 180));have HE2:=Zz (HE1.o.below (bel_alloc (bR _ _) (.cells #[.string (mkS s),.bool (!v)] 180)));obtain ⟨st0,HSt0,HP0⟩:∃ st0:Option (List UInt8),Hid (st0 = if v = true then some s else none)/\Hid (PSt (w1.alloc (.cells #[.string (mkS s),.bool (!v)] 180)) (w1.alloc (.cells #[.string (mkS s),.bool (!v)] 180)) w1.heap.size st0):=by
  have hA:=Ref5.At.new w1 s (!v) 180 (by omega);cases v with
  | true=>exact ⟨some s,Zz rfl,Zz ⟨Step.refl hA,HV.o,hs⟩⟩
  | false=>exact ⟨none,Zz rfl,Zz ⟨s,Step.refl hA⟩⟩
 go_wp2_with fail;refine (blanks_any_calls _ _ st0 _ HP0.o).mono ?_;rintro e w2 ⟨rfl,hp2,hg2⟩;have HP2:=Zz hp2;have HT3:=Zz (HT2.o.grown hg2 hn2);have HE3:=Zz (HE2.o.grown hg2 hrb);have hz2:w1.heap.size < w2.heap.size:=by have:=hg2.size;simp at this;omega
 clear hp2 hg2;go_wp2_with fail;refine (over_any_calls _ _ (st0.map blanks) _ HP2.o).mono ?_;rintro e w3 ⟨rfl,rfl⟩;cases ho:(st0.map blanks).any over with
 | true =>
  have HO:Hid (lineOf false s = some none):=Zz (by
   have h0:=HSt0.o;cases v with
   | false=>rw [h0] at ho;cases ho
   | true =>
    rw [h0] at ho;have ho':over (blanks s) = true:=ho;rw [lineOf,HV.o,ho'];rfl)
  clear ho;obtain ⟨⟨p0,p1,p2,p9,p10,p11⟩,⟨p3,p4,p5,p12,p13,p14⟩,⟨p6,p7,p8,p15,p16,p17⟩⟩:=HT3.o;simp only [Nat.zero_add,Nat.reduceAdd] at p1 p2 p4 p5 p7 p8 p10 p11 p13 p14 p16 p17;dsimp only [zeroTr,zeroT] at *;go_wp2;refine bodyPost_ret (v:=oneV (some none)) (by simp [results,Tryz.results87,go_sem,p0,p1,p2,p3,p4,p5,p6,p7,p8,oneV,tripleV,zeroTr,zeroT,mkS_nil]) rfl ?_;rw [HO.o];refine ⟨⟨rfl,fun t ht=>by cases ht⟩,?_⟩;exact (bel_set (bel_set (bel_set (bel_set (bel_set (bel_set (bel_set (bel_set (bel_set (bel_seen HP2.o.grown HB2.o (by omega)) (lR _) _) (lR _) _) (lR _) _) (lR _) _) (lR _) _) (lR _) _) (lR _) _) (lR _) _) (lR _) _)
 | false =>
  have HO:=Zz ho;clear ho;have hn6:¬ w2.heap.size = w1.heap.size:=by omega
  have hn7:¬ w2.heap.size = w.heap.size:=by omega
  have hn8:¬ w.heap.size = w2.heap.size:=by omega
  have HU0:=Zz (T9.newA w2 zeroTr);have HT4:=Zz (HT3.o.alloc (.cells #[.int .i64 0,.string (mkS []),.string (mkS []),.int .i64 0,.string (mkS []),.string (mkS []),.int .i64 0,.string (mkS []),.string (mkS [])] 171));have HP3:=Zz (HP2.o.alloc (.cells #[.int .i64 0,.string (mkS []),.string (mkS []),.int .i64 0,.string (mkS []),.string (mkS []),.int .i64 0,.string (mkS []),.string (mkS [])] 171));have HE4:=Zz (HE3.o.below (bel_alloc (bR _ _) (.cells #[.int .i64 0,.string (mkS []),.string (mkS []),.int .i64 0,.string (mkS []),.string (mkS []),.int .i64 0,.string (mkS []),.string (mkS [])] 171)));go_wp2;go_loopw [20] (fun vi wr=>∃ (k:Nat) (a p o:Term) (st:Option (List UInt8)),k <= 3/\vi = .int .i64 k/\Hid (PSt (w1.alloc (.cells #[.string (mkS s),.bool (!v)] 180)) wr w1.heap.size st)/\Hid (T9 wr w2.heap.size ⟨a,p,o⟩)/\Hid (T9 wr w.heap.size zeroTr)/\Hid (Env wr)/\Hid (Chain (st0.map blanks) k a p o st)) (fun vi _=>3 - (intOf vi).toNat)
  case atStart=>exact ⟨0,zeroT,zeroT,zeroT,st0.map blanks,by omega,rfl,HP3,HU0,HT4,HE4,Zz (.inl ⟨rfl,rfl⟩)⟩
  case round =>
   obtain ⟨k,⟨ak,ax,ay⟩,⟨bk,bx,bY⟩,⟨ck,cx,cy⟩,st,hk3,rfl,HP,HU,HT,HE,HC⟩:=hrel;have hzr:w2.heap.size < wr.heap.size:=HU.o.s.lt;have hk:k = 0 \/ k = 1 \/ k = 2 \/ k = 3:=by omega
   clear hk3 HB0 HT0 HE0 HT1 HE1 HT2 HE2 HP0 HP2 HT3 HE3 HU0 HT4 HP3 HE4;rcases hk with rfl | rfl | rfl | rfl
   ·
    go_wp2_with fail;refine (term_any_calls (w1.alloc (.cells #[.string (mkS s),.bool (!v)] 180)) _ st _ HE.o hrb HP.o).mono ?_;rintro e w4 ⟨⟨tk,tx,te⟩,st',⟨rfl,hf⟩,⟨hps,hg⟩,hnx⟩;unfold termV;have HP1:=Zz hps;have HU1:=Zz (HU.o.grown hg hn6);have HT5:=Zz (HT.o.grown hg hn2);have HE5:=Zz (HE.o.grown hg hrb);have HN:=Zz hnx.next;have HF:=Zz hf;have hz4:w2.heap.size < w4.heap.size:=HU1.o.s.lt;clear hps hg hnx hf;obtain ⟨⟨u0,u1,u2,u9,u10,u11⟩,⟨u3,u4,u5,u12,u13,u14⟩,⟨u6,u7,u8,u15,u16,u17⟩⟩:=HU1.o;simp only [Nat.zero_add,Nat.reduceAdd] at u1 u2 u4 u5 u7 u8 u10 u11 u13 u14 u16 u17;dsimp only [zeroTr,zeroT] at *;have HP6:=Zz ((((HP1.o.other (g:=w2.heap.size) (j:=0) (by simp;omega) hn6 (.int .i64 tk)).other (g:=w2.heap.size) (j:=1) (by simp;omega) hn6 (.string (mkS tx))).other (g:=w2.heap.size) (j:=2) (by simp;omega) hn6 (.string (mkS te))));have HT6:=Zz ((((HT5.o.other (g':=w2.heap.size) (j:=0) hn8 (.int .i64 tk)).other (g':=w2.heap.size) (j:=1) hn8 (.string (mkS tx))).other (g':=w2.heap.size) (j:=2) hn8 (.string (mkS te))));have HU6:=Zz (T9.setS HU1.o ⟨tk,tx,te⟩);have HE6:=Zz ((((HE5.o.set (g:=w2.heap.size) (j:=0) (by omega) (.int .i64 tk)).set (g:=w2.heap.size) (j:=1) (by omega) (.string (mkS tx))).set (g:=w2.heap.size) (j:=2) (by omega) (.string (mkS te))));go_wp2_with fail;refine (blanks_any_calls (w1.alloc (.cells #[.string (mkS s),.bool (!v)] 180)) _ st' _ HP6.o).mono ?_;rintro e w5 ⟨rfl,hps,hg⟩;have HP7:=Zz hps;have HU7:=Zz (HU6.o.grown hg hn6);have HT7:=Zz (HT6.o.grown hg hn2);have HE7:=Zz (HE6.o.grown hg hrb);have HC7:Hid (Chain (st0.map blanks) 1 ⟨tk,tx,te⟩ ⟨bk,bx,bY⟩ ⟨ck,cx,cy⟩ (st'.map blanks)):=Zz (by
     rcases HC.o with ⟨_,hst⟩ | ⟨h,_⟩ | ⟨h,_⟩ | ⟨h,_⟩
     ·
      subst hst;exact .inr (.inl ⟨rfl,HN.o,fun h=>HF.o (fun e=>h (by rw [e];rfl))⟩)
     ·
      omega
     ·
      omega
     ·
      omega)
    clear u0 u1 u2 u3 u4 u5 u6 u7 u8 u9 u10 u11 u12 u13 u14 u15 u16 u17;clear hps hg;go_wp2;go_roundw
    case rel=>exact ⟨1,⟨tk,tx,te⟩,⟨bk,bx,bY⟩,⟨ck,cx,cy⟩,st'.map blanks,by omega,by go_num,HP7,HU7,HT7,HE7,HC7⟩
    case measure=>simp [intOf]
   ·
    go_wp2_with fail;refine (term_any_calls (w1.alloc (.cells #[.string (mkS s),.bool (!v)] 180)) _ st _ HE.o hrb HP.o).mono ?_;rintro e w4 ⟨⟨tk,tx,te⟩,st',⟨rfl,hf⟩,⟨hps,hg⟩,hnx⟩;unfold termV;have HP1:=Zz hps;have HU1:=Zz (HU.o.grown hg hn6);have HT5:=Zz (HT.o.grown hg hn2);have HE5:=Zz (HE.o.grown hg hrb);have HN:=Zz hnx.next;have HF:=Zz hf;have hz4:w2.heap.size < w4.heap.size:=HU1.o.s.lt;clear hps hg hnx hf;obtain ⟨⟨u0,u1,u2,u9,u10,u11⟩,⟨u3,u4,u5,u12,u13,u14⟩,⟨u6,u7,u8,u15,u16,u17⟩⟩:=HU1.o;simp only [Nat.zero_add,Nat.reduceAdd] at u1 u2 u4 u5 u7 u8 u10 u11 u13 u14 u16 u17;dsimp only [zeroTr,zeroT] at *;have HP6:=Zz ((((HP1.o.other (g:=w2.heap.size) (j:=3) (by simp;omega) hn6 (.int .i64 tk)).other (g:=w2.heap.size) (j:=4) (by simp;omega) hn6 (.string (mkS tx))).other (g:=w2.heap.size) (j:=5) (by simp;omega) hn6 (.string (mkS te))));have HT6:=Zz ((((HT5.o.other (g':=w2.heap.size) (j:=3) hn8 (.int .i64 tk)).other (g':=w2.heap.size) (j:=4) hn8 (.string (mkS tx))).other (g':=w2.heap.size) (j:=5) hn8 (.string (mkS te))));have HU6:=Zz (HU1.o.setP ⟨tk,tx,te⟩);have HE6:=Zz ((((HE5.o.set (g:=w2.heap.size) (j:=3) (by omega) (.int .i64 tk)).set (g:=w2.heap.size) (j:=4) (by omega) (.string (mkS tx))).set (g:=w2.heap.size) (j:=5) (by omega) (.string (mkS te))));go_wp2_with fail;refine (blanks_any_calls (w1.alloc (.cells #[.string (mkS s),.bool (!v)] 180)) _ st' _ HP6.o).mono ?_;rintro e w5 ⟨rfl,hps,hg⟩;have HP7:=Zz hps;have HU7:=Zz (HU6.o.grown hg hn6);have HT7:=Zz (HT6.o.grown hg hn2);have HE7:=Zz (HE6.o.grown hg hrb);have HC7:Hid (Chain (st0.map blanks) 2 ⟨ak,ax,ay⟩ ⟨tk,tx,te⟩ ⟨ck,cx,cy⟩ (st'.map blanks)):=Zz (by
     rcases HC.o with ⟨h,_⟩ | ⟨_,n1,f1⟩ | ⟨h,_⟩ | ⟨h,_⟩
     ·
      omega
     ·
      exact .inr (.inr (.inl ⟨rfl,st,n1,HN.o,fun h=>⟨f1 (next_none HN.o h),HF.o (fun e=>h (by rw [e];rfl))⟩⟩))
     ·
      omega
     ·
      omega)
    clear u0 u1 u2 u3 u4 u5 u6 u7 u8 u9 u10 u11 u12 u13 u14 u15 u16 u17;clear hps hg;go_wp2;go_roundw
    case rel=>exact ⟨2,⟨ak,ax,ay⟩,⟨tk,tx,te⟩,⟨ck,cx,cy⟩,st'.map blanks,by omega,by go_num,HP7,HU7,HT7,HE7,HC7⟩
    case measure=>simp [intOf]
   ·
    go_wp2_with fail;refine (term_any_calls (w1.alloc (.cells #[.string (mkS s),.bool (!v)] 180)) _ st _ HE.o hrb HP.o).mono ?_;rintro e w4 ⟨⟨tk,tx,te⟩,st',⟨rfl,hf⟩,⟨hps,hg⟩,hnx⟩;unfold termV;have HP1:=Zz hps;have HU1:=Zz (HU.o.grown hg hn6);have HT5:=Zz (HT.o.grown hg hn2);have HE5:=Zz (HE.o.grown hg hrb);have HN:=Zz hnx.next;have HF:=Zz hf;have hz4:w2.heap.size < w4.heap.size:=HU1.o.s.lt;clear hps hg hnx hf;obtain ⟨⟨u0,u1,u2,u9,u10,u11⟩,⟨u3,u4,u5,u12,u13,u14⟩,⟨u6,u7,u8,u15,u16,u17⟩⟩:=HU1.o;simp only [Nat.zero_add,Nat.reduceAdd] at u1 u2 u4 u5 u7 u8 u10 u11 u13 u14 u16 u17;dsimp only [zeroTr,zeroT] at *;have HP6:=Zz ((((HP1.o.other (g:=w2.heap.size) (j:=6) (by simp;omega) hn6 (.int .i64 tk)).other (g:=w2.heap.size) (j:=7) (by simp;omega) hn6 (.string (mkS tx))).other (g:=w2.heap.size) (j:=8) (by simp;omega) hn6 (.string (mkS te))));have HT6:=Zz ((((HT5.o.other (g':=w2.heap.size) (j:=6) hn8 (.int .i64 tk)).other (g':=w2.heap.size) (j:=7) hn8 (.string (mkS tx))).other (g':=w2.heap.size) (j:=8) hn8 (.string (mkS te))));have HU6:=Zz (HU1.o.setO ⟨tk,tx,te⟩);have HE6:=Zz ((((HE5.o.set (g:=w2.heap.size) (j:=6) (by omega) (.int .i64 tk)).set (g:=w2.heap.size) (j:=7) (by omega) (.string (mkS tx))).set (g:=w2.heap.size) (j:=8) (by omega) (.string (mkS te))));go_wp2_with fail;refine (blanks_any_calls (w1.alloc (.cells #[.string (mkS s),.bool (!v)] 180)) _ st' _ HP6.o).mono ?_;rintro e w5 ⟨rfl,hps,hg⟩;have HP7:=Zz hps;have HU7:=Zz (HU6.o.grown hg hn6);have HT7:=Zz (HT6.o.grown hg hn2);have HE7:=Zz (HE6.o.grown hg hrb);have HC7:Hid (Chain (st0.map blanks) 3 ⟨ak,ax,ay⟩ ⟨bk,bx,bY⟩ ⟨tk,tx,te⟩ (st'.map blanks)):=Zz (by
     rcases HC.o with ⟨h,_⟩ | ⟨h,_⟩ | ⟨_,s1,n1,n2,f2⟩ | ⟨h,_⟩
     ·
      omega
     ·
      omega
     ·
      exact .inr (.inr (.inr ⟨rfl,s1,st,n1,n2,HN.o,fun h=>⟨(f2 (next_none HN.o h)).1,(f2 (next_none HN.o h)).2,HF.o (fun e=>h (by rw [e];rfl))⟩⟩))
     ·
      omega)
    clear u0 u1 u2 u3 u4 u5 u6 u7 u8 u9 u10 u11 u12 u13 u14 u15 u16 u17;clear hps hg;go_wp2;go_roundw
    case rel=>exact ⟨3,⟨ak,ax,ay⟩,⟨bk,bx,bY⟩,⟨tk,tx,te⟩,st'.map blanks,by omega,by go_num,HP7,HU7,HT7,HE7,HC7⟩
    case measure=>simp [intOf]
   ·
    obtain ⟨s1,s2,n1,n2,n3,ff⟩:∃ s1 s2,Ref5.Next false (st0.map blanks) ⟨ak,ax,ay⟩ s1/\Ref5.Next false s1 ⟨bk,bx,bY⟩ s2/\Ref5.Next false s2 ⟨ck,cx,cy⟩ st/\(st ≠ none -> FitsX ⟨ak,ax,ay⟩/\FitsX ⟨bk,bx,bY⟩/\FitsX ⟨ck,cx,cy⟩):=by
     rcases HC.o with ⟨h,_⟩ | ⟨h,_⟩ | ⟨h,_⟩ | ⟨_,s1,s2,n1,n2,n3,ff⟩
     ·
      omega
     ·
      omega
     ·
      omega
     ·
      exact ⟨s1,s2,n1,n2,n3,ff⟩
    have HLn:Hid (lineOf false s = lineEnd ⟨⟨ak,ax,ay⟩,⟨bk,bx,bY⟩,⟨ck,cx,cy⟩⟩ st):=Zz (by
     have h0:=HSt0.o;cases v with
     | true =>
      rw [h0] at n1;have ho':over (blanks s) = false:=by have:=HO.o;rw [h0] at this;exact this
      exact one_by false s HV.o ho' n1 n2 n3
     | false =>
      rw [h0] at n1;have:s1 = none:=n1;subst this;have:s2 = none:=n2;subst this;have:st = none:=n3;subst this;rw [lineOf,if_pos HV.o];rfl)
    have HFF:=Zz ff;clear n1 n2 n3 ff HC;go_wp2_with fail;refine (dot_any_calls (w1.alloc (.cells #[.string (mkS s),.bool (!v)] 180)) _ st _ HP.o).mono ?_;rintro e w4 ⟨rfl,hps,hg⟩;have HP1:=Zz hps;have HU1:=Zz (HU.o.grown hg hn6);have HT5:=Zz (HT.o.grown hg hn2);have HE5:=Zz (HE.o.grown hg hrb);clear hps hg;go_wp2_with fail;refine (blanks_any_calls (w1.alloc (.cells #[.string (mkS s),.bool (!v)] 180)) _ (dot st) _ HP1.o).mono ?_;rintro e w5 ⟨rfl,hps,hg⟩;have HP7:=Zz hps;have HU7:=Zz (HU1.o.grown hg hn6);have HT7:=Zz (HT5.o.grown hg hn2);have HE7:=Zz (HE5.o.grown hg hrb);have hz5:w2.heap.size < w5.heap.size:=HU7.o.s.lt;clear hps hg;obtain ⟨⟨u0,u1,u2,u9,u10,u11⟩,⟨u3,u4,u5,u12,u13,u14⟩,⟨u6,u7,u8,u15,u16,u17⟩⟩:=HU7.o;simp only [Nat.zero_add,Nat.reduceAdd] at u1 u2 u4 u5 u7 u8 u10 u11 u13 u14 u16 u17;dsimp only [zeroTr,zeroT] at *;have HP8:=Zz (HP7.o.alloc (.cells #[.int .i64 ak,.string (mkS ax),.string (mkS ay),.int .i64 bk,.string (mkS bx),.string (mkS bY),.int .i64 ck,.string (mkS cx),.string (mkS cy)] 36));have HT8:=Zz (HT7.o.alloc (.cells #[.int .i64 ak,.string (mkS ax),.string (mkS ay),.int .i64 bk,.string (mkS bx),.string (mkS bY),.int .i64 ck,.string (mkS cx),.string (mkS cy)] 36));have HE8:=Zz (HE7.o.below (bel_alloc (bR _ _) (.cells #[.int .i64 ak,.string (mkS ax),.string (mkS ay),.int .i64 bk,.string (mkS bx),.string (mkS bY),.int .i64 ck,.string (mkS cx),.string (mkS cy)] 36)));have HV8:=Zz (T9.new w5 ⟨⟨ak,ax,ay⟩,⟨bk,bx,bY⟩,⟨ck,cx,cy⟩⟩);have hm1:¬ w5.heap.size = w.heap.size:=by omega
    have hm2:¬ w.heap.size = w5.heap.size:=by omega
    have hzw5:w.heap.size < w5.heap.size:=by omega
    go_wp2_with fail;refine (over_any_calls (w1.alloc (.cells #[.string (mkS s),.bool (!v)] 180)) _ ((dot st).map blanks) _ HP8.o).mono ?_;rintro e w6 ⟨rfl,rfl⟩;clear u0 u1 u2 u3 u4 u5 u6 u7 u8 u9 u10 u11 u12 u13 u14 u15 u16 u17;cases hd:((dot st).map blanks).any over with
    | false =>
     have HN1:=Zz (HLn.o.trans (end_no _ st hd));clear hd;obtain ⟨⟨p0,p1,p2,p9,p10,p11⟩,⟨p3,p4,p5,p12,p13,p14⟩,⟨p6,p7,p8,p15,p16,p17⟩⟩:=HT7.o;simp only [Nat.zero_add,Nat.reduceAdd] at p1 p2 p4 p5 p7 p8 p10 p11 p13 p14 p16 p17;dsimp only [zeroTr,zeroT] at *;go_wp2;refine bodyPost_ret (v:=oneV none) (by simp [results,Tryz.results87,go_sem,hm1,hm2,hzw5,p0,p1,p2,p3,p4,p5,p6,p7,p8,oneV,tripleV,zeroTr,zeroT,mkS_nil]) rfl ?_;rw [HN1.o];refine ⟨⟨rfl,fun t ht=>by cases ht⟩,?_⟩;clear p0 p1 p2 p3 p4 p5 p6 p7 p8 p9 p10 p11 p12 p13 p14 p15 p16 p17;exact bel_alloc (bel_set (bel_set (bel_set (bel_set (bel_set (bel_set (bel_set (bel_set (bel_set (bel_seen HP7.o.grown HB2.o (by omega)) (lR _) _) (lR _) _) (lR _) _) (lR _) _) (lR _) _) (lR _) _) (lR _) _) (lR _) _) (lR _) _) _
    | true =>
     obtain ⟨hne,hle⟩:=end_yes ⟨⟨ak,ax,ay⟩,⟨bk,bx,bY⟩,⟨ck,cx,cy⟩⟩ st hd;have HN0:=Zz (HLn.o.trans hle);have hfx:=HFF.o hne;have hfit:FitsT ⟨⟨ak,ax,ay⟩,⟨bk,bx,bY⟩,⟨ck,cx,cy⟩⟩:=⟨hfx.1.1,hfx.2.1.1,hfx.2.2.1⟩;have HFt:=Zz hfit;have HIs:=Zz (pist_calls ⟨⟨ak,ax,ay⟩,⟨bk,bx,bY⟩,⟨ck,cx,cy⟩⟩ hfit ⟨by have:=hfx.1.2;dsimp only at this |-;omega,by have:=hfx.2.1.2;dsimp only at this |-;omega,by have:=hfx.2.2.2;dsimp only at this |-;omega⟩);clear hd hne hle hfit hfx;go_wp2_with fail;refine (HIs.o _ HE8.o).mono ?_;rintro e w6 ⟨rfl,hb6⟩;have HP9:Hid ((w1.alloc (.cells #[.string (mkS s),.bool (!v)] 180)).grownBy w6 (some w1.heap.size)):=Zz (HP8.o.grown.trans ⟨hb6.os,hb6.tape,hb6.output,hb6.size,fun k hk _=>hb6.block k hk⟩);have HT9:=Zz (HT8.o.below hb6);have HV9:=Zz (HV8.o.below hb6);have hz6:w5.heap.size < w6.heap.size:=HV9.o.s.lt;clear hb6;obtain ⟨⟨p0,p1,p2,p9,p10,p11⟩,⟨p3,p4,p5,p12,p13,p14⟩,⟨p6,p7,p8,p15,p16,p17⟩⟩:=HT9.o;simp only [Nat.zero_add,Nat.reduceAdd] at p1 p2 p4 p5 p7 p8 p10 p11 p13 p14 p16 p17;dsimp only [zeroTr,zeroT] at *;obtain ⟨⟨u0,u1,u2,u9,u10,u11⟩,⟨u3,u4,u5,u12,u13,u14⟩,⟨u6,u7,u8,u15,u16,u17⟩⟩:=HV9.o;simp only [Nat.zero_add,Nat.reduceAdd] at u1 u2 u4 u5 u7 u8 u10 u11 u13 u14 u16 u17;dsimp only [zeroTr,zeroT] at *;cases hi:isTriple ⟨⟨ak,ax,ay⟩,⟨bk,bx,bY⟩,⟨ck,cx,cy⟩⟩ with
     | false =>
      have HN1:Hid (lineOf false s = none):=Zz (HN0.o.trans (if_neg (by rw [hi];decide)));clear hi HN0;go_wp2;refine bodyPost_ret (v:=oneV none) (by simp [results,Tryz.results87,go_sem,hm1,hm2,p0,p1,p2,p3,p4,p5,p6,p7,p8,oneV,tripleV,zeroTr,zeroT,mkS_nil]) rfl ?_;rw [HN1.o];refine ⟨⟨rfl,fun t ht=>by cases ht⟩,?_⟩;clear p0 p1 p2 p3 p4 p5 p6 p7 p8 p9 p10 p11 p12 p13 p14 p15 p16 p17;clear u0 u1 u2 u3 u4 u5 u6 u7 u8 u9 u10 u11 u12 u13 u14 u15 u16 u17;exact (bel_set (bel_set (bel_set (bel_set (bel_set (bel_set (bel_set (bel_set (bel_set (bel_seen HP9.o HB2.o (by omega)) (lR _) _) (lR _) _) (lR _) _) (lR _) _) (lR _) _) (lR _) _) (lR _) _) (lR _) _) (lR _) _)
     | true =>
      have HN1:Hid (lineOf false s = some (some ⟨⟨ak,ax,ay⟩,⟨bk,bx,bY⟩,⟨ck,cx,cy⟩⟩)):=Zz (HN0.o.trans (if_pos hi));clear hi HN0;go_wp2;refine bodyPost_ret (v:=oneV (some (some ⟨⟨ak,ax,ay⟩,⟨bk,bx,bY⟩,⟨ck,cx,cy⟩⟩))) (by simp [results,Tryz.results87,go_sem,hm1,hm2,p0,p1,p2,p3,p4,p5,p6,p7,p8,oneV,tripleV,zeroTr,zeroT,mkS_nil]) rfl ?_;rw [HN1.o];refine ⟨⟨rfl,fun t ht=>by cases ht;exact HFt.o⟩,?_⟩;clear p0 p1 p2 p3 p4 p5 p6 p7 p8 p9 p10 p11 p12 p13 p14 p15 p16 p17;clear u0 u1 u2 u3 u4 u5 u6 u7 u8 u9 u10 u11 u12 u13 u14 u15 u16 u17;exact (bel_set (bel_set (bel_set (bel_set (bel_set (bel_set (bel_set (bel_set (bel_set (bel_seen HP9.o HB2.o (by omega)) (lR _) _) (lR _) _) (lR _) _) (lR _) _) (lR _) _) (lR _) _) (lR _) _) (lR _) _) (lR _) _)
end Prg
namespace Parse
open Go.RowKit Go.Lib B Rd Utf TermPure LinesPure Tx Env Tri SortP Print Cmp Long SortW ParseP MapT
theorem cut_calls (s:List UInt8) (hs:s.length <= 1000000) (w:World) (he:Env w) :
  Calls Tryz.prog 85 #[.string (mkS s),.string (mkS [10])] w fun e w'=>e = .returned (.tuple #[.string (mkS (cutL s).1),.string (mkS (cutL s).2.1),.bool (cutL s).2.2])/\Below w.heap.size w w':=by
 obtain ⟨m,hm⟩:=he.len;refine (Tryz.strings_Cut (mkS s) (mkS [10]) m w (by rw [mkS_size];omega) hm).mono ?_;rintro e w' ⟨rfl,n,rfl⟩;rw [mkS_data,mkS_data,cutL_eq];exact ⟨rfl,bel_drewN (bR _ _) _⟩
theorem trimCr_calls (s:List UInt8) (hs:s.length <= 1000000) (w:World) :
  Calls Tryz.prog 86 #[.string (mkS s),.string (mkS [13])] w fun e w'=>e = .returned (.string (mkS (Lib.trimSuffix s [13])))/\w = w':=
 (Tryz.strings_TrimSuffix (mkS s) (mkS [13]) w (by rw [mkS_size];omega)).mono fun e w' ⟨h1,h2⟩=>⟨h1,h2.symm⟩
def FF:Nat -> Prop:=fun _=>False
def Parsed (w:World) (r:Res) (e:Ending) (w':World):Prop:=
 ∃ A c,e = .returned (.tuple #[.slice A r.1.length c,.int .i64 r.2.1,.int .i64 r.2.2])/\triK.sl.M w' (fun k=>w.heap.size <= k/\k < w'.heap.size) r.1 [.slice A r.1.length c]/\Below w.heap.size w w'
theorem Parsed.err {w w':World} (n:Nat) (x:Int) (hb:Below w.heap.size w w'):Parsed w ([],n,x) (.returned (.tuple #[.slice none 0 0,.int .i64 n,.int .i64 x])) w':=
 ⟨none,0,rfl,⟨none,0,rfl,lR _,⟨Nat.zero_le _,Nat.zero_le _⟩,fun _=>rfl,Kd.row_nil _ _ _ _⟩,hb⟩
structure St (w wr:World) (v:Value) (T:List Triple):Prop where
 map:MapT.MapAt wr w.heap.size T
 row:triK.own 36 wr (w.heap.size + 1) FF v T
 valid:Valid T
 bel:Below w.heap.size w wr
theorem St.below {w wr w1:World} {v:Value} {T:List Triple} (h:St w wr v T) (hb:Below wr.heap.size wr w1):St w w1 v T:=⟨h.map.below hb,Kd.own_below h.row hb,h.valid,bel_step h.bel hb⟩
theorem valid_small {t:Triple} (h:isTriple t = true):SmallT t/\FitsW3 t:=by
 obtain ⟨h1,h2,h3⟩:=isT_parts h;have k1:=is_small h1;have k2:=is_small h2;have k3:=is_small h3;unfold SmallT FitsW3 FitsW;omega
theorem new_row {w wr w1:World} {v v1:Value} {T:List Triple} {t:Triple} (h:St w wr v T) (hm:MapT.MapAt w1 w.heap.size (T ++ [t])) (hr:triK.own 36 w1 (w.heap.size + 1) FF v1 (T ++ [t])) (ht:isTriple t = true) (hb:Below w.heap.size w w1):St w w1 v1 (T ++ [t]):=
 ⟨hm,hr,fun x hx=>(Zk.1 hx).elim (h.valid x) (fun hx=>by simp at hx;subst hx;exact ht),hb⟩
theorem parse_calls (s:List UInt8) (hs:s.length <= 140737488355328) (w:World) (he:Env w) :
  Calls Tryz.prog 44 #[.string (mkS s)] w (Parsed w (parse s)):=by
 have z:=mkS_size s;by_cases hl:20000 < s.length
 ·
  have hP:Hid (parse s = ([],0,4)):=Zz (by rw [parse,if_pos hl]);have hd:decide (20000 < s.length) = true:=dT hl;clear he;go_enter func44,ntmps44;go_wp2;go_step3;go_wp2;simp (config:={ zetaDelta:=true }) only [Exit.inBlock,Exit.noGoto_ret,Exit.then];go_ret3;rw [hP.o];exact Parsed.err 0 4 (bR _ _)
 ·
  have hle:s.length <= 20000:=by omega
  have hd:decide (20000 < s.length) = false:=dF hl;have HP:Hid (pg s [] 0 = parse s):=Zz (by rw [parse,if_neg hl]);have hmm:=@run_makeMap Tryz.prog;have HE:=Zz he;have HM0:=Zz (MapT.MapAt.new w);clear he hl;go_enter func44,ntmps44;go_wp2;go_step3;go_wp2;go_step3;go_wp2;go_loopg [0,6,7] (s.length) (fun k v0 v6 v7 wr=>∃ (r:List UInt8) (T:List Triple) (n:Nat) (u:Value),u = v6/\Hid (r.length = k)/\v0 = .string (mkS r)/\v7 = .int .i64 n/\n <= 200/\r.length <= 20000/\T.length <= 100/\Hid (St w wr u T)/\Hid (pg r T n = parse s))
  case atStart=>exact ⟨s,[],0,_,rfl,Zz rfl,rfl,rfl,by omega,hle,by simp,Zz ⟨HM0.o,Kd.own_nil _ _ _ _ _,fun _ h=>(by cases h),bel_alloc (bR _ _) _⟩,HP⟩
  case round =>
   obtain ⟨r,T,n,u,rfl,HK,rfl,rfl,hn,hr,hT,HS,HG⟩:=hrel;clear HM0 HP z hd hle hs;have z:=mkS_size r;have zl:=mkS_toList r;by_cases hr0:r = []
   ·
    have HR:Hid (parse s = (sortT T,n,0)):=Zz (by rw [<- HG.o,hr0,pg_nil]);subst hr0;obtain ⟨A,c,rfl,_,_⟩:=Kd.own_slice HS.o.row;have HSort:=Zz (sort_calls T A c wr (Kd.M_bound (Kd.own_sl (ok':=TT) HS.o.row (fun _ _=>trivial) (fun _ _=>trivial))) (fun t ht=>(valid_small (HS.o.valid t ht)).1) HS.o.valid (by omega));go_wp2_with fail;refine HSort.o.mono ?_;rintro e w' ⟨A2,c2,rfl,hM,hb⟩;have HF:Hid (triK.sl.M w' (fun k=>w.heap.size <= k/\k < w'.heap.size) (sortT T) [.slice A2 (sortT T).length c2]/\Below w.heap.size w w'):=Zz ⟨triK.sl.mono (fun k hk _=>⟨Zh HS.o.bel.size hk.1,hk.2⟩) hM,bel_step HS.o.bel hb⟩;clear hM hb HSort;go_wp2;go_ret3;rw [HR.o];exact ⟨A2,c2,rfl,HF.o.1,HF.o.2⟩
   ·
    have hE:r.isEmpty = false:=by
     cases r with
     | nil=>exact absurd rfl hr0
     | cons b l=>rfl
    have HE1:=Zz (HE.o.below HS.o.bel);have HCut:=Zz (cut_calls r (by omega) wr HE1.o);obtain ⟨b,hb⟩:∃ b,b = (cutL r).2.2:=⟨_,rfl⟩;obtain ⟨x,hx⟩:∃ x,x = (cutL r).1:=⟨_,rfl⟩;obtain ⟨q,hq⟩:∃ q,q = restS r:=⟨_,rfl⟩;obtain ⟨y,hy⟩:∃ y,y = lineS r:=⟨_,rfl⟩;have hxl:x.length <= 20000:=by have:=cutL_len r;rw [hx];omega
    have hyl:y.length <= 20000:=by have:=lineS_len r;rw [hy];omega
    have hql:q.length < r.length:=by rw [hq];exact cutL_rest r hr0
    have HY:Hid (y = if b = true then Lib.trimSuffix x [13] else x):=Zz (by rw [hy,hb,hx];rfl);rw [<- hb,<- hx,show (cutL r).2.1 = q from hq.symm] at HCut;have HTrim:=Zz (fun w=>trimCr_calls x (by omega) w);have HFull:Hid (200 < n + 1 -> parse s = ([],n + 1,3)):=Zz (fun h=>by rw [<- HG.o,pg_full r T n hr0 h]);have HBad:Hid (¬ 200 < n + 1 -> lineOf false y = none -> parse s = ([],n + 1,2)):=Zz (fun h h1=>by rw [<- HG.o,pg_bad r T n hr0 h (by rw [<- hy];exact h1)]);have HNone:Hid (¬ 200 < n + 1 -> lineOf false y = some none -> pg q T (n + 1) = parse s):=Zz (fun h h1=>by rw [<- HG.o,pg_none r T n hr0 h (by rw [<- hy];exact h1),hq]);have HOld:Hid (∀ t,¬ 200 < n + 1 -> lineOf false y = some (some t) -> t ∈ T -> pg q T (n + 1) = parse s):=Zz (fun t h h1 h2=>by rw [<- HG.o,pg_old r T n t hr0 h (by rw [<- hy];exact h1) h2,hq]);have HMany:Hid (∀ t,¬ 200 < n + 1 -> lineOf false y = some (some t) -> t ∉ T -> 100 < T.length + 1 -> parse s = ([],n + 1,3)):=Zz (fun t h h1 h2 h3=>by rw [<- HG.o,pg_many r T n t hr0 h (by rw [<- hy];exact h1) h2 h3]);have HNew:Hid (∀ t,¬ 200 < n + 1 -> lineOf false y = some (some t) -> t ∉ T -> ¬ 100 < T.length + 1 -> pg q (T ++ [t]) (n + 1) = parse s):=Zz (fun t h h1 h2 h3=>by rw [<- HG.o,pg_new r T n t hr0 h (by rw [<- hy];exact h1) h2 h3,hq]);have HOne:=Zz (fun w he=>Prg.one_calls y (by omega) w he);have HQ:Hid (q.length < gk/\q.length <= 20000):=Zz (by rw [<- HK.o];omega);clear hb hx hq hy HG HK HE1;go_wp2_with fail;refine HCut.o.mono ?_;rintro e w1 ⟨rfl,hb1⟩;have HS1:=Zz (HS.o.below hb1);clear hb1 HCut HS hql z zl hr hr0 hE;go_upto_if 27 with fail;go_cut [8] (fun v8 wx=>v8 = .string (mkS y)/\Hid (St w wx u T))
    case first =>
     cases b
     ·
      have HY2:Hid (mkS y = mkS x):=Zz (by rw [HY.o];rfl);go_wp2_with fail;go_meet;exact ⟨by rw [HY2.o],HS1⟩
     ·
      have HY2:Hid (mkS y = mkS (Lib.trimSuffix x [13])):=Zz (by rw [HY.o];rfl);generalize hts:mkS (Lib.trimSuffix x [13]) = tx at *;go_wp2_with fail;refine (HTrim.o _).mono ?_;rintro e w2 ⟨rfl,rfl⟩;clear hts HTrim;go_wp2_with fail;go_meet;exact ⟨by rw [HY2.o],HS1⟩
    case rest =>
     obtain ⟨rfl,HS2⟩:=hcut;clear HTrim HY HS1 hxl;by_cases hf:200 < n + 1
     ·
      have hd:decide ((200:Int) < (n:Int) + 1) = true:=dT (by omega);have HR:=Zz (HFull.o hf);go_wp2;go_ret3;rw [HR.o];exact Parsed.err (n + 1) 3 HS2.o.bel
     ·
      have hd:decide ((200:Int) < (n:Int) + 1) = false:=dF (by omega);have HO:=Zz (HOne.o _ (HE.o.below HS2.o.bel));clear HOne;rcases h:lineOf false y with _ | _ | t
      ·
       have HR:=Zz (HBad.o hf h);rw [h] at HO;clear HBad HNone HOld HMany HNew HFull h;unfold Ref5.oneV at HO;dsimp only at HO;go_wp2_with fail;refine HO.o.mono ?_;rintro e w3 ⟨⟨rfl,_⟩,hb3⟩;have HS3:=Zz (HS2.o.below hb3);clear hb3 HO;unfold Ref5.tripleV Ref5.zeroTr Tc.zeroT;dsimp only;go_wp2;go_ret3;rw [HR.o];exact Parsed.err (n + 1) 2 (bel_alloc HS3.o.bel _)
      ·
       have HR:=Zz (HNone.o hf h);rw [h] at HO;clear HBad HNone HOld HMany HNew HFull h;unfold Ref5.oneV at HO;dsimp only at HO;go_wp2_with fail;refine HO.o.mono ?_;rintro e w3 ⟨⟨rfl,_⟩,hb3⟩;have HS3:=Zz (HS2.o.below hb3);clear hb3 HO;unfold Ref5.tripleV Ref5.zeroTr Tc.zeroT;dsimp only;go_wp2;go_roundg q.length
       case measure=>exact HQ.o.1
       case rel=>exact ⟨q,T,n + 1,_,rfl,Zz rfl,rfl,by go_num,by omega,HQ.o.2,hT,Zz (HS3.o.below (bel_alloc (bR _ _) _)),HR⟩
      ·
       have HIs:=Zz (lineOf_is h);rw [h] at HO;obtain ⟨hst,hft⟩:=valid_small HIs.o;have HR1:Hid (t ∈ T -> pg q T (n + 1) = parse s):=Zz (fun ht=>HOld.o t hf h ht);have HR2:Hid (t ∉ T -> 100 < T.length + 1 -> parse s = ([],n + 1,3)):=Zz (fun ht=>HMany.o t hf h ht);have HR3:Hid (t ∉ T -> ¬ 100 < T.length + 1 -> pg q (T ++ [t]) (n + 1) = parse s):=Zz (fun ht=>HNew.o t hf h ht);clear HBad HNone HOld HMany HNew HFull h hst;unfold Ref5.oneV at HO;dsimp only at HO;go_wp2_with fail;refine HO.o.mono ?_;rintro e w3 ⟨⟨rfl,_⟩,hb3⟩;have hlt3:w.heap.size < w3.heap.size:=(HS2.o.below hb3).map.lt;have HS3:=Zz ((HS2.o.below hb3).below (bel_alloc (bR _ _) (.cells (triL t).toArray 36)));have HC3:=Zz (C9.new w3 t);clear hb3 HO HS2;by_cases ht:t ∈ T
       ·
        have hlook:=run_look HS3.o.map t;rw [dT ht] at hlook;have HR:=Zz (HR1.o ht);clear HR1 HR2 HR3 ht;unfold Ref5.tripleV triL at hlook;unfold Ref5.tripleV;go_wp2;go_roundg q.length
        case measure=>exact HQ.o.1
        case rel=>exact ⟨q,T,n + 1,_,rfl,Zz rfl,rfl,by go_num,by omega,HQ.o.2,hT,HS3,HR⟩
       ·
        have hlook:=run_look HS3.o.map t;rw [dF ht] at hlook;obtain ⟨w4,hput,hm4,hg4⟩:=run_put HS3.o.map t ht;have HM4:=Zz hm4;have hrow4:=Kd.own_grown HS3.o.row hg4 (fun k hk=>hk.elim) (fun k hk=>by have:=Kd.own_lt HS3.o.row k hk;intro e;have e2:k = w.heap.size:=(by simpa using e);omega);have HRow4:=Zz hrow4;have hne:w3.heap.size ≠ w.heap.size:=by omega
        have hbase:w.heap.size + 1 <= w4.heap.size:=by have:=hg4.size;simp at this;omega
        have hc4:C9 w4 w3.heap.size 0 t:=HC3.o.moved (hg4.block _ (HC3.o.lt) (by simpa using hne));obtain ⟨c0,c1,c2,c3,c4,c5,c6,c7,c8⟩:=hc4;simp only [Nat.zero_add] at c0 c1 c2 c3 c4 c5 c6 c7 c8;have HB4:Hid (Below w.heap.size w w4):=Zz (Below.grown HS3.o.bel hg4 HS3.o.bel.size (fun j hj=>by cases hj;exact lR _));unfold Ref5.tripleV triL at hlook hput;unfold Ref5.tripleV;clear hm4 hrow4 hlt3 hne;obtain ⟨T1,hT1⟩:∃ T1,T1 = T ++ [t]:=⟨_,rfl⟩;have HT1:=Zz hT1;have HL1:Hid (T1.length = T.length + 1):=Zz (by rw [hT1];simp);clear hT1;by_cases h100:100 < T.length + 1
        ·
         have HR:=Zz (HR2.o ht h100);have hgt:100 < T1.length:=by rw [HL1.o];exact h100
         have hd:decide ((100:Int) < (T1.length:Int)) = true:=dT (by omega);have hT2:T1.length <= 101:=by rw [HL1.o];omega
         clear HR1 HR2 HR3 ht h100;go_wp2_with (at_builtin;go_loud (refine Kd.own_app1 triK (w0:=w4) (w.heap.size + 1) (by rfl) (.tmp 53) (.tmp 55) 22 36 zeroV 120 (by rfl) underlying22 info_tri rfl (by decide) u T t (triL t) FF (by rfl) (by rfl) HRow4.o ⟨rfl,hft⟩ (bR _ _) hbase ?hl ?_);go_loud (case hl=>omega);go_loud (intro v1 w5 ho5 hb5 hg5 hv5;rw [<- HT1.o] at ho5;have HB6:Hid (Below w.heap.size w w5):=Zz (Below.grown HB4.o hg5 HB4.o.size (fun j hj=>by have:=(Kd.own_lt HRow4.o j hj).1;omega));have HO5:=Zz ho5;have HB5:=Zz hb5;obtain ⟨A1,cap1,rfl,_,_⟩:=Kd.own_slice ho5;clear ho5 hb5 hg5 hv5))
         go_wp2;go_ret3;rw [HR.o];exact Parsed.err (n + 1) 3 HB6.o
        ·
         have HR:=Zz (HR3.o ht h100);have hT2:T1.length <= 100:=by rw [HL1.o];omega
         have hd:decide (100 < T1.length) = false:=dF (by omega);clear HR1 HR2 HR3 ht h100;go_wp2_with (at_builtin;go_loud (refine Kd.own_app1 triK (w0:=w4) (w.heap.size + 1) (by rfl) (.tmp 53) (.tmp 55) 22 36 zeroV 120 (by rfl) underlying22 info_tri rfl (by decide) u T t (triL t) FF (by rfl) (by rfl) HRow4.o ⟨rfl,hft⟩ (bR _ _) hbase ?hl ?_);go_loud (case hl=>omega);go_loud (intro v1 w5 ho5 hb5 hg5 hv5;rw [<- HT1.o] at ho5;have HB6:Hid (Below w.heap.size w w5):=Zz (Below.grown HB4.o hg5 HB4.o.size (fun j hj=>by have:=(Kd.own_lt HRow4.o j hj).1;omega));have HO5:=Zz ho5;have HB5:=Zz hb5;obtain ⟨A1,cap1,rfl,_,_⟩:=Kd.own_slice ho5;clear ho5 hb5 hg5 hv5))
         go_wp2;have HS5:Hid (St w w5 (.slice A1 T1.length cap1) T1):=Zz (by
          have hb:=HB6.o;have hm:MapT.MapAt w5 w.heap.size (T ++ [t]):=HM4.o.moved (HB5.o.block _ (Nat.lt_succ_self _));have hr:=HO5.o;rw [HT1.o] at hr |-;exact new_row HS3.o hm hr HIs.o hb)
         go_roundg q.length
         case measure=>exact HQ.o.1
         case rel=>exact ⟨q,T1,n + 1,_,rfl,Zz rfl,rfl,by go_num,by omega,HQ.o.2,hT2,HS5,by rw [HT1.o];exact HR⟩
end Parse
namespace Made
open Go.RowKit Go.Lib B Rd TermPure LinesPure Tri SortP OrdG TermW Cmp StoreW IdsCmp Clones RingW SortUse Search Long
def FF:Nat -> Prop:=fun _=>False
structure MS (w wr:World) (v0 u v2:Value):Prop where
 bel:Below w.heap.size w wr
 lt:w.heap.size < wr.heap.size
 c0:wr.cell? ⟨w.heap.size,0,none⟩ = some v0
 c1:wr.cell? ⟨w.heap.size,1,none⟩ = some u
 c2:wr.cell? ⟨w.heap.size,2,none⟩ = some v2
 free:∀ j,wr.frozen? ⟨w.heap.size,j,none⟩ = false
theorem MS.below {w wr w1:World} {v0 u v2:Value} (h:MS w wr v0 u v2) (hb:Below (w.heap.size + 1) wr w1):MS w w1 v0 u v2:=by
 have hc:∀ o,w1.cell? ⟨w.heap.size,o,none⟩ = wr.cell? ⟨w.heap.size,o,none⟩:=fun o=>hb.cell (p:=⟨w.heap.size,o,none⟩) (Nat.lt_succ_self _)
 exact ⟨h.bel.trans (hb.mono (Nat.le_succ _)),Nat.lt_of_lt_of_le h.lt hb.size,(hc 0).trans h.c0,(hc 1).trans h.c1,(hc 2).trans h.c2,fun j=>(hb.frozen (p:=⟨w.heap.size,j,none⟩) (Nat.lt_succ_self _)).trans (h.free j)⟩
theorem MS.set1 {w wr:World} {v0 u v2:Value} (h:MS w wr v0 u v2) (v:Value):MS w (wr.setCell ⟨w.heap.size,1,none⟩ v) v0 v v2:=
 ⟨bel_set h.bel (lR _) _,by simpa using h.lt,(Zo _ _ _ _ (by simp)).trans h.c0,World.cell?_setCell_same _ _ _ h.c1,(Zo _ _ _ _ (by simp)).trans h.c2,fun j=>by rw [World.frozen?_setCell];exact h.free j⟩
theorem MS.set2 {w wr:World} {v0 u v2:Value} (h:MS w wr v0 u v2) (v:Value):MS w (wr.setCell ⟨w.heap.size,2,none⟩ v) v0 u v:=
 ⟨bel_set h.bel (lR _) _,by simpa using h.lt,(Zo _ _ _ _ (by simp)).trans h.c0,(Zo _ _ _ _ (by simp)).trans h.c1,World.cell?_setCell_same _ _ _ h.c2,fun j=>by rw [World.frozen?_setCell];exact h.free j⟩
theorem MS.new (w:World) (v0 v1 v2:Value):MS w (w.alloc (.cells #[v0,v1,v2] 93)) v0 v1 v2:=by
 have hc:∀ {o:Nat} {u:Value},#[v0,v1,v2][o]? = some u -> (w.alloc (.cells #[v0,v1,v2] 93)).cell? ⟨w.heap.size,o,none⟩ = some u:=fun {o u} hu=>by
  rw [World.cell?,Kd.heap_new];exact hu
 refine ⟨bel_alloc (bR _ _) _,by simp,hc rfl,hc rfl,hc rfl,fun j=>?_⟩;unfold World.frozen?;dsimp only;rw [Kd.heap_new]
 try rfl
theorem own_set_other {α:Type} {d:Kd α} {e:TypeId} {w:World} {base g o:Nat} {v u:Value} {xs:List α} (h:d.own e w base FF v xs) (hg:g < base):d.own e (w.setCell ⟨g,o,none⟩ u) base FF v xs:=
 Kd.own_move (fun k hk _=>Below.heap_setCell _ _ _ _ (fun e=>by
  rcases hk with hk | hk
  ·
   exact hk
  ·
   have h1:=(Kd.own_lt h k hk).1
   have e2:k = g:=e
   omega)) h
theorem three_row (w:World) (t:Triple) (ht:FitsW3 t):termK.sl.M (w.alloc (.cells (triL t).toArray 24)) (fun _=>True) [t.s,t.p,t.o] [.slice (some ⟨w.heap.size,0,none⟩) 3 3]:=by
 have hc:∀ {o:Nat} {u:Value},(triL t)[o]? = some u -> (w.alloc (.cells (triL t).toArray 24)).cell? ⟨w.heap.size,o,none⟩ = some u:=fun {o u} hu=>by
  rw [World.cell?,Kd.heap_new];simpa using hu
 refine ⟨some ⟨w.heap.size,0,none⟩,3,rfl,lR _,⟨by simp,by unfold maxLen;omega⟩,fun h=>(by cases h),fun i x hx=>?_⟩;have hi:i < 3:=(List.getElem?_eq_some_iff.1 hx).1
 match i,hi with
 | 0,_ =>
  cases hx;refine ⟨_,termL t.s,rfl,trivial,⟨rfl,ht.1⟩,fun j u hu=>?_⟩;rw [add_plain];apply hc;rw [triL_eq,List.getElem?_append_left (by have:=(List.getElem?_eq_some_iff.1 hu).1;simpa [termK,held] using this)];simpa using hu
 | 1,_ =>
  cases hx;refine ⟨_,termL t.p,rfl,trivial,⟨rfl,ht.2.1⟩,fun j u hu=>?_⟩;rw [add_plain];apply hc;have hj:j < 3:=(List.getElem?_eq_some_iff.1 hu).1
  match j,hj with
  | 0,_=>exact hu
  | 1,_=>exact hu
  | 2,_=>exact hu
 | 2,_ =>
  cases hx;refine ⟨_,termL t.o,rfl,trivial,⟨rfl,ht.2.2⟩,fun j u hu=>?_⟩;rw [add_plain];apply hc;have hj:j < 3:=(List.getElem?_eq_some_iff.1 hu).1
  match j,hj with
  | 0,_=>exact hu
  | 1,_=>exact hu
  | 2,_=>exact hu
theorem nine {w:World} {g:Nat} {t:Triple} (h:C9 w g 0 t):w.cell? ⟨g,0,none⟩ = some (.int .i64 t.s.kind)/\w.cell? ⟨g,1,none⟩ = some (.string (mkS t.s.text))/\w.cell? ⟨g,2,none⟩ = some (.string (mkS t.s.extra))/\w.cell? ⟨g,3,none⟩ = some (.int .i64 t.p.kind)/\w.cell? ⟨g,4,none⟩ = some (.string (mkS t.p.text))/\w.cell? ⟨g,5,none⟩ = some (.string (mkS t.p.extra))/\w.cell? ⟨g,6,none⟩ = some (.int .i64 t.o.kind)/\w.cell? ⟨g,7,none⟩ = some (.string (mkS t.o.text))/\w.cell? ⟨g,8,none⟩ = some (.string (mkS t.o.extra)):=by
 obtain ⟨c0,c1,c2,c3,c4,c5,c6,c7,c8⟩:=h;simp only [Nat.zero_add] at *;exact ⟨c0,c1,c2,c3,c4,c5,c6,c7,c8⟩
def val1 (g:Nat) (w:World):Value:=(w.cell? ⟨g,1,none⟩).getD undef
theorem val1_some {g:Nat} {w:World} {u:Value} (h:w.cell? ⟨g,1,none⟩ = some u):w.cell? ⟨g,1,none⟩ = some (val1 g w):=by unfold val1;rw [h];rfl
theorem val1_of {g:Nat} {w:World} {u:Value} (h:w.cell? ⟨g,1,none⟩ = some u):val1 g w = u:=by unfold val1;rw [h];rfl
theorem C9.other {w:World} {g g' o:Nat} {t:Triple} {u:Value} (h:C9 w g 0 t) (hne:g ≠ g'):C9 (w.setCell ⟨g',o,none⟩ u) g 0 t:=h.moved (Below.heap_setCell _ _ _ _ hne)
theorem inT_snoc (T:List Triple) (i:Nat) (h:i < T.length):inTriples (T.take i) ++ [T[i].s,T[i].p,T[i].o] = inTriples (T.take (i + 1)):=by
 unfold inTriples;rw [Zt h,List.flatMap_append];simp
theorem inT_len:∀ T:List Triple,(inTriples T).length = 3 * T.length
 | []=>rfl
 | t :: T=>by
  have:=inT_len T
  unfold inTriples at *
  simp at *
  omega
theorem compact_none (A:Option Addr) (c:Nat) (w:World):Calls Tryz.prog 90 #[.slice A 0 c] w fun e w'=>e = .returned (.slice A 0 c)/\w = w':=by
 go_enter func90,ntmps90;go_wp2;go_ret;exact ⟨rfl,rfl⟩
theorem compact_own (l:List Term) (hl:l.length <= 1000) (hf:∀ t ∈ l,FitsW t) (u:Value) (base:Nat) (w:World) (hbw:base <= w.heap.size) (ho:termK.own 24 w base FF u l) :
  Calls Tryz.prog 90 #[u] w fun e w'=>∃ A c,e = .returned (.slice A (compactE l).length c)/\termK.sl.M w' (fun k=>base <= k) (compactE l) [.slice A (compactE l).length c]/\Below base w w':=by
 rcases Nat.eq_zero_or_pos l.length with h0 | hp
 ·
  obtain rfl:l = []:=Zn h0;have hM:=own_from Clones.any_term ho;obtain ⟨A,c,rfl,_,_⟩:=Kd.own_slice ho;refine (compact_none A c w).mono ?_;rintro e w' ⟨rfl,rfl⟩;exact ⟨A,c,rfl,hM,bR _ _⟩
 ·
  obtain ⟨g,cap,rfl,hg,hlt,hc,hcm,hS⟩:=SR.of_own ho hp;refine (compact_calls l l.length cap rfl hc (by omega) hcm g w w hS).mono ?_;rintro e w' ⟨rfl,hS2⟩;have hlen:=compE_len l l.length (lR _);rw [List.take_length] at hlen;exact ⟨_,cap,rfl,hS2.own (fun t ht=>hf t ((compactE_mem l t).1 ht)) (by omega) (by omega) hcm _ hg,Below.grown (bR _ _) hS2.grown hbw (fun j hj=>by cases hj;exact hg)⟩
structure TS (w wr:World) (B:Nat) (v0 v2:Value) (R:List Term) (A:Option Addr) (c:Nat):Prop where
 ms:MS w wr v0 (.slice A R.length c) v2
 hB:B <= wr.heap.size
 lt:w.heap.size < B
 row:termK.sl.M wr (fun k=>w.heap.size < k/\k < B) R [.slice A R.length c]
theorem TS.below {w wr w1:World} {B:Nat} {v0 v2:Value} {R:List Term} {A:Option Addr} {c:Nat} (h:TS w wr B v0 v2 R A c) (hb:Below B wr w1):TS w w1 B v0 v2 R A c:=
 ⟨h.ms.below (hb.mono h.lt),Zh h.hB hb.size,h.lt,termK.sl.move (fun k hk _=>hb.block k hk.2) h.row⟩
theorem idsT_snoc (T:List Triple) (i:Nat) (h:i < T.length):(idsT T).take i ++ [idsOf (termsT T) T[i]] = (idsT T).take (i + 1):=by
 have hi:i < (idsT T).length:=by unfold idsT;simpa using h
 rw [Zt hi];congr 1;simp only [idsT,List.getElem_map]
theorem terms_len {T:List Triple} (h:Valid T):(termsT T).length <= (inTriples T).length:=by
 have key:∀ (l acc:List Term),(l.foldl (putE fun a b=>decide (ltTm a b)) acc).length <= acc.length + l.length:=by
  intro l
  induction l with
  | nil=>intro acc;simp
  | cons t l ih =>
   intro acc;have hp:∀ (a:List Term),(putE (fun a b=>decide (ltTm a b)) a t).length <= a.length + 1:=by
    intro a
    induction a with
    | nil=>simp [putE]
    | cons y a iha =>
     rw [putE]
     split
     ·
      simp only [Zc];omega
     ·
      split <;> simp
   have:=ih (putE (fun a b=>decide (ltTm a b)) acc t);have:=hp acc;simp only [List.foldl_cons,Zc];omega
 have:=key (inTriples T) [];unfold termsT;simpa using this
theorem idOf_le (l:List Term) (t:Term):idOf l t <= l.length:=by
 unfold idOf
 split
 ·
  rename_i h
  exact List.idxOf_lt_length_of_mem h
 ·
  omega
theorem good_ids {T:List Triple} (h:Valid T) (hl:T.length <= 100):∀ x ∈ idsT T,RingW.Good x:=by
 intro x hx;obtain ⟨t,ht,rfl⟩:=List.mem_map.1 hx;obtain ⟨h1,h2,h3⟩:=mem_three ht;have hb:∀ y,y ∈ inTriples T -> 1 <= idOf (termsT T) y/\idOf (termsT T) y <= 1000:=fun y hy=>by
  have hm:=(termsT_mem h y).2 hy;have:=idOf_le (termsT T) y;have:=terms_len h;have:=inT_len T;refine ⟨?_,by omega⟩
  unfold idOf;rw [if_pos hm];omega
 exact ⟨hb _ h1,hb _ h2,hb _ h3⟩
theorem finish {w w3:World} {B0 gr:Nat} {T:List Triple} {A A1:Option Addr} {c c1:Nat} {ok:Nat -> Prop} (h:TS w w3 B0 (.slice A T.length c) (.pointer none) (termsT T) A1 c1) (hr:RingAt w3 (fun k=>B0 <= k) gr (idsT T)) (hM:triK.sl.M w ok T [.slice A T.length c]) :
  StoreAt (w3.setCell ⟨w.heap.size,2,none⟩ (.pointer (some ⟨gr,0,none⟩))) (fun k=>ok k \/ w.heap.size <= k) w.heap.size T/\Below w.heap.size w (w3.setCell ⟨w.heap.size,2,none⟩ (.pointer (some ⟨gr,0,none⟩))):=by
 have hs:=h.ms.set2 (.pointer (some ⟨gr,0,none⟩));have hm:∀ k,w.heap.size < k -> k < w3.heap.size -> (w3.setCell ⟨w.heap.size,2,none⟩ (.pointer (some ⟨gr,0,none⟩))).heap[k]? = w3.heap[k]?:=fun k hk _=>Below.heap_setCell _ _ _ _ (fun e=>by have e2:k = w.heap.size:=e;omega)
 have hlt:=h.lt;refine ⟨⟨.inr (lR _),⟨A,c,hs.c0,triK.sl.mono (fun k hk _=>.inl hk) (Kd.M_below hM hs.bel)⟩,⟨A1,c1,hs.c1,termK.sl.mono (fun k hk _=>.inr (by have:=hk.1;omega)) (termK.sl.move (fun k hk hl=>hm k hk.1 hl) h.row)⟩,gr,hs.c2,(hr.move (fun k hk hl=>hm k (by have:B0 <= k:=hk;omega) hl)).mono (fun k hk _=>.inr (by have:B0 <= k:=hk;omega))⟩,hs.bel⟩
end Made
namespace QT
open Go.RowKit B
section
variable {P : Program} {ops : Array Oper} {md : Region.Mode} {C : World → Prop}
def sinkF (md:Region.Mode) (ops:Array Oper) (k0 n:Nat):Bool:=
 (List.range n).all fun i=>decide (i < k0) || (List.range (n + 1)).any fun j=>decide (i < j) && Region.waitsFor md ops j i
theorem tail_waitsF {k0 n:Nat} {listed:Array Bool} (hs:sinkF md ops k0 n = true) (hc:Region.chainB md ops n = true) (hn:n < ops.size) (inv:HeadInv md ops n listed) :
  ∀ (d i:Nat),n - i = d -> k0 <= i -> i < n -> listed.getD i true = false -> ∀ t,n <= t -> t ∉ Region.ready md ops listed:=by
 intro d
 induction d using Nat.strongRecOn with
 | _ d ih =>
  intro i hd hk0 hi hun t ht hr;obtain ⟨_,ot,hot,hall⟩:=mem_ready.1 hr;have htlt:t < ops.size:=(Array.getElem?_eq_some_iff.1 hot).1;by_cases htn:t = n
  ·
   subst htn;have h1:=List.all_eq_true.1 hs i (List.mem_range.2 hi);simp only [Bool.or_eq_true,decide_eq_true_eq] at h1;rcases h1 with h1 | h1
   ·
    omega
   obtain ⟨j,hj,hj2⟩:=List.any_eq_true.1 h1;simp only [Bool.and_eq_true,decide_eq_true_eq] at hj2;obtain ⟨oj,hoj,e,he,hb,hon⟩:=Region.waitsFor_spec hj2.2;have hjle:j <= t:=by have:=List.mem_range.1 hj;omega
   by_cases hjt:j = t
   ·
    subst hjt;have:oj = ot:=Option.some.inj (hoj.symm.trans hot);subst this;have h2:=hall e he hb;rw [hon,getD_both hun] at h2;cases h2
   ·
    cases hl:listed.getD j false with
    | true =>
     have h2:=inv.closed j oj hoj hl e he hb;rw [hon,getD_both hun] at h2;cases h2
    | false =>
     have hjs:j < listed.size:=by rw [inv.size];omega
     exact ih (t - j) (by omega) j rfl (by omega) (by omega) (getD_in hjs hl) t (lR _) hr
  ·
   have h1:=List.all_eq_true.1 hc t (List.mem_range.2 htlt);simp only [Bool.or_eq_true,decide_eq_true_eq] at h1;rcases h1 with h1 | h1
   ·
    omega
   ·
    obtain ⟨o',ho',e,he,hb,hon⟩:=Region.waitsFor_spec h1;have:o' = ot:=Option.some.inj (ho'.symm.trans hot);subst this;have h2:=hall e he hb;rw [hon,getD_both (inv.tail (t - 1) (by omega) (by omega))] at h2;cases h2
theorem headF_first {n i:Nat} {oi:Oper} {v:Value} {L:Array Bool -> Act -> Prop} (hi:ops[i]? = some oi) (hsel:∀ (j:Nat) (o:Oper) cs b,ops[j]? = some o -> o.op ≠ .select cs b)
  {k0:Nat} (hs:sinkF md ops k0 n = true) (hc:Region.chainB md ops n = true) (hn:n < ops.size) (hk0:k0 <= i) (hin:i < n) (hdone:∀ listed a,L listed a -> ∀ j ∈ Region.ready md ops listed,n <= j) :
  ∀ (f:Nat) (listed:Array Bool) (a:Act),HeadInv md ops n listed ->
   (∀ j oj,ops[j]? = some oj -> j ≠ i -> listed.getD j true = false -> (∀ e ∈ oj.after,Region.binds md e = true -> e.on ≠ i) -> oi.apart ops oj = true) ->
   i ∈ Region.ready md ops listed -> YieldsIn P ops C oi v a -> headQ P md ops C n L f (listed.setIfInBounds i true) (a.put oi.dst v) -> headQ P md ops C n L (f + 1) listed a:=by
 intro f
 induction f with
 | zero =>
  intro listed a inv _ hr hy H;refine ⟨fun h=>(by rw [h] at hr;cases hr),fun j hj=>?_⟩;have hjn:j < n:=Nat.lt_of_not_le fun h=>tail_waitsF hs hc hn inv _ i rfl hk0 hin (mem_ready.1 hr).1 j h hj
  refine ⟨hjn,?_⟩;by_cases hji:j = i
  ·
   rw [hji];exact hy.qOp hi H
  ·
   exact absurd (hdone _ _ H j (ready_mono hj hji)) (by omega)
 | succ f ih =>
  intro listed a inv hfree hr hy H;have hun:=(mem_ready.1 hr).1;refine ⟨fun h=>(by rw [h] at hr;cases hr),fun j hj=>?_⟩;have hjn:j < n:=Nat.lt_of_not_le fun h=>tail_waitsF hs hc hn inv _ i rfl hk0 hin hun j h hj
  refine ⟨hjn,?_⟩;by_cases hji:j = i
  ·
   rw [hji];exact hy.qOp hi H
  ·
   obtain ⟨hjun,oj,hoj,hall⟩:=mem_ready.1 hj;have hnot:∀ e ∈ oj.after,Region.binds md e = true -> e.on ≠ i:=fun e he hb heq=>by
    have h1:=hall e he hb;rw [heq,getD_both hun] at h1;cases h1
   have h2:=qOp_put hoj (hfree j oj hoj hji hjun hnot) (fun cs b=>hsel i oi cs b hi) (fun cs b=>hsel j oj cs b hoj) hy (H.2 j (ready_mono hj hji)).2;refine qOp_mono (fun a' h3=>ih (listed.setIfInBounds j true) a' (inv.set hj hjn) (fun k ok hk hki hun' hno=>?_) (ready_mono hr (Ne.symm hji)) h3.1 ?_) h2
   ·
    refine hfree k ok hk hki ?_ hno;by_cases hjk:j = k
    ·
     rw [<- hjk];exact hjun
    ·
     rwa [getD_set_ne true hjk] at hun'
   ·
    rw [Array.setIfInBounds_comm _ _ hji];exact h3.2
theorem headF_lex {n g:Nat} {Lq:Act -> Prop} (hsel:Region.noSelect ops = true) {k0:Nat} (hs:sinkF md ops k0 n = true) (hc:Region.chainB md ops n = true) (hn:n < ops.size) :
  ∀ (l:List Oper) (k:Nat) (listed:Array Bool) (a:Act),k0 <= k -> (∀ j,j < l.length -> l[j]? = ops[k + j]?) -> k + l.length = n -> HeadInv md ops n listed -> Region.lexHead md ops g l.length k listed = true ->
   wpQuiet P ops C Lq l a -> headQ P md ops C n (fun listed' a'=>Region.seqB md ops g n listed' = true/\Lq a') l.length listed a
 | [],k,listed,a,_,_,hk,_,hB,h=>by
  obtain rfl:k = n:=by simpa using hk
  exact ⟨by simpa [Region.lexHead] using hB,h⟩
 | o :: l,k,listed,a,hkk,hl,hk,inv,hB,h=>by
  have h0:ops[k]? = some o:=by simpa using (hl 0 (by simp)).symm
  simp only [Zc] at hk;simp only [Zc,Region.lexHead,Bool.and_eq_true] at hB;have hr:k ∈ Region.ready md ops listed:=by simpa using hB.1.1
  have hq:qOp P ops C k (wpQuiet P ops C Lq l) a:=by
   unfold qOp;simp only [h0];exact h
  obtain ⟨v,hy,hK⟩:=yieldsIn_of_qOp h0 hq;refine headF_first h0 (Region.noSelect_spec hsel) hs hc hn hkk (by omega) (fun _ _ hL=>seqB_ready hL.1) l.length listed a inv (Region.free_spec h0 hB.1.2) hr hy ?_;exact headF_lex hsel hs hc hn l (k + 1) _ _ (by omega) (fun j hj=>by
   have:=hl (j + 1) (by simp;omega);simpa [Nat.add_assoc,Nat.add_comm 1 j] using this) (by omega) (inv.set hr (by omega)) hB.2 hK
def lexTailF (md:Region.Mode) (ops:Array Oper) (n:Nat):Bool:=
 Region.noSelect ops && decide (n < ops.size) && decide (0 < n) && sinkF md ops 1 n && Region.chainB md ops n && Region.free md ops (Array.replicate ops.size false) 0 &&
  (Region.ready md ops (Array.replicate ops.size false)).contains 0 && Region.lexHead md ops (ops.size - n) (n - 1) 1 ((Array.replicate ops.size false).setIfInBounds 0 true)
theorem region_move {id:Nat} {Q:Exit -> Act -> World -> Prop} {a:Act} {w:World} {l:List Oper} (n:Nat) (o0:Oper) (x:Operand) (hm:P.follows .mixedOrders = true) (h0:l[0]? = some o0) (hop:o0.op = .move x) (hgd:o0.guard = none)
  (hB:lexTailF .any l.toArray n = true) (hQ:∀ c (a':Act) w',Q (.panic c) (a'.put o0.dst (a.eval x)) w' -> Q (.panic c) a' w')
  (h:wpQuiet P l.toArray (fun w'=>∃ p:Bel w,w' = p.w) (fun a'=>∀ w',(∃ p:Bel w,w' = p.w) -> wpList P l.toArray Q (l.drop n) a' w') ((l.take n).drop 1) (a.put o0.dst (a.eval x))):(Code.region id l.toArray true).wp P Q a w:=by
 simp only [lexTailF,Bool.and_eq_true,decide_eq_true_eq] at hB;obtain ⟨⟨⟨⟨⟨⟨⟨hsel,hn⟩,hn0⟩,hs⟩,hc⟩,hf⟩,hr⟩,hlex⟩:=hB;have hn':n < l.length:=by simpa using hn
 have htl:((l.take n).drop 1).length = n - 1:=by simp;omega
 have hdl:(l.drop n).length = l.toArray.size - n:=by simp
 have hr':0 ∈ Region.ready .any l.toArray (Array.replicate l.toArray.size false):=by simpa using hr
 have inv0:HeadInv .any l.toArray n (Array.replicate l.toArray.size false):=
  ⟨by simp,fun j oj _ hl=>(by rw [getD_replicate_false] at hl;cases hl),fun t _ ht=>getD_in (by simpa using ht) (getD_replicate_false _ _)⟩
 have H:=headF_lex (P:=P) (C:=fun w'=>∃ p:Bel w,w' = p.w) (md:=.any) (g:=l.toArray.size - n) hsel hs hc hn ((l.take n).drop 1) 1 _ (a.put o0.dst (a.eval x)) (lR _) (fun j hj=>by
  rw [htl] at hj;have h1:1 + j < n:=by omega
  rw [List.getElem?_drop,List.getElem?_take,if_pos h1,List.getElem?_toArray]) (by rw [htl];omega) (inv0.set hr' hn0) (by rw [htl];exact hlex) h
 rw [htl] at H;refine wp_region_any hm ?_;have key:=any_of_headQ (Q':=Q) (g:=l.toArray.size - n) (fun listed a' w' hC' hL=>by
  have:=wpAny_of_seq (md:=.any) (Q':=Q) (l.drop n) n listed a' w' (fun j=>by simp [List.getElem?_drop]) (by rw [hdl];exact hL.1) (hL.2 w' hC')
  rwa [hdl] at this) (n - 1) _ _ { w with drawn:=w.drawn + 1 } (⟨⟨_,(bR _ w).drew⟩,rfl⟩) H
 have hy:Yields P l.toArray o0 (a.eval x) a:=.inl ⟨by simp [Region.wanted,hgd],fun w=>by simp [execOp,hop]⟩;have:=wpAny_take (Q:=Q) (by simpa using h0) hsel hf hr hQ hy key
 rwa [show n - 1 + (l.toArray.size - n) + 1 = l.toArray.size by omega] at this
end
end QT
namespace Made
open Go.RowKit Go.Lib B Rd TermPure LinesPure Tri SortP OrdG TermW Cmp StoreW IdsCmp Clones RingW SortUse Search Long
theorem made_calls (T:List Triple) (hv:Valid T) (hr:Rise T) (hl:T.length <= 100) (A:Option Addr) (c:Nat) (w:World) (ok:Nat -> Prop) (HL:triK.sl.M w ok T [.slice A T.length c]) :
  Calls Tryz.prog 45 #[.slice A T.length c] w fun e w'=>(∃ g,e = .returned (.pointer (some ⟨g,0,none⟩))/\StoreAt w' (fun k=>ok k \/ w.heap.size <= k) g T)/\Below w.heap.size w w':=by
 have HRow:=Zz (fun k hk=>row_cells (Kd.M_bound HL) k hk);have HM:=Zz HL;have HV:=Zz hv;have HR:=Zz hr;have HMS0:=Zz (MS.new w (.slice A T.length c) (.slice none 0 0) (.pointer none));have HO0:Hid (termK.own 24 (w.alloc (.cells #[.slice A T.length c,.slice none 0 0,.pointer none] 93)) (w.heap.size + 1) FF (.slice none 0 0) (inTriples (T.take 0))):=Zz (Kd.own_nil _ _ _ _ _);clear HL hv hr;go_enter func45,ntmps45;go_wp2;go_loopw [14] (fun vi wr=>∃ (i:Nat) (u:Value),vi = .int .i64 i/\i <= T.length/\Hid (MS w wr (.slice A T.length c) u (.pointer none))/\Hid (termK.own 24 wr (w.heap.size + 1) FF u (inTriples (T.take i)))) (fun vi _=>T.length - (intOf vi).toNat)
 case atStart=>exact ⟨0,_,rfl,by omega,HMS0,HO0⟩
 case round =>
  obtain ⟨i,u,rfl,hi,HS,HO⟩:=hrel;clear HMS0 HO0;by_cases hlt:i < T.length
  ·
   have hd:decide (i < T.length) = true:=dT hlt;have ik:(i:Int) < (T.length:Int):=by omega
   obtain ⟨b,off,rfl,hbs,hcells⟩:=HRow.o i hlt;obtain ⟨t,ht⟩:∃ t,t = T[i]:=⟨_,rfl⟩;have hcx:=(hcells i hlt).below HS.o.bel;rw [<- ht] at hcx;obtain ⟨z0,z1,z2,z3,z4,z5,z6,z7,z8⟩:=hcx;have hfit:FitsW3 t:=(Parse.valid_small (HV.o t (by rw [ht];exact Zm hlt))).2;have HSn:=Zz (inT_snoc T i hlt);rw [<- ht] at HSn;have HLn:Hid ((inTriples (T.take i)).length <= 300):=Zz (by rw [inT_len,Zi];omega);have hbx:Below wr.heap.size wr (wr.alloc (.cells (triL t).toArray 36)):=bel_alloc (bR _ _) _;have hnx:=C9.new wr t;obtain ⟨w0,hw0⟩:∃ w0,w0 = wr.alloc (.cells (triL t).toArray 36):=⟨_,rfl⟩;rw [<- hw0] at hnx hbx;have HW:Hid (wr.alloc (.cells (triL t).toArray 36) = w0):=Zz hw0.symm;have hglt:=HS.o.lt;have HS0:=Zz (HS.o.below (hbx.mono hglt));have HO0:=Zz (Kd.own_below HO.o hbx);have HK:Hid (∀ w',Below w0.heap.size w0 w' -> w'.cell? ⟨w.heap.size,1,none⟩ = some u/\C9 w' wr.heap.size 0 t):=Zz (fun w' hb=>⟨(hb.cell (p:=⟨w.heap.size,1,none⟩) HS0.o.lt).trans HS0.o.c1,hnx.below hb⟩);have HKg:Hid (∀ W w5,Below w0.heap.size w0 W -> W.grownBy w5 u.ownBlock -> Below (w.heap.size + 1) w0 w5 -> w5.cell? ⟨w.heap.size,1,none⟩ = some u/\C9 w5 wr.heap.size 0 t):=Zz (fun W w5 hb hg5 hb5=>⟨(hb5.cell (p:=⟨w.heap.size,1,none⟩) (Nat.lt_succ_self _)).trans HS0.o.c1,(hnx.below hb).moved (hg5.block _ (hnx.below hb).lt (fun e=>by have:=(Kd.own_lt HO.o _ e.symm).2;omega))⟩);have HTR:Hid (∀ W:World,termK.sl.M (W.alloc (.cells (triL t).toArray 24)) (fun _=>True) [t.s,t.p,t.o] [.slice (some ⟨W.heap.size,0,none⟩) 3 3]):=Zz (fun W=>three_row W t hfit);clear hcells hbx hw0 ht hnx hfit;obtain ⟨⟨sk,sx,se⟩,⟨pk,px,pe⟩,⟨ok',ox,oe⟩⟩:=t;unfold triL at HW HTR;dsimp only at z0 z1 z2 z3 z4 z5 z6 z7 z8 HW HTR HSn;have HK2:Hid (∀ w',Below w0.heap.size w0 w' -> w'.cell? ⟨w.heap.size,1,none⟩ = some (val1 w.heap.size w')/\w'.cell? ⟨wr.heap.size,0,none⟩ = some (.int .i64 sk)/\w'.cell? ⟨wr.heap.size,1,none⟩ = some (.string (mkS sx))/\w'.cell? ⟨wr.heap.size,2,none⟩ = some (.string (mkS se))/\w'.cell? ⟨wr.heap.size,3,none⟩ = some (.int .i64 pk)/\w'.cell? ⟨wr.heap.size,4,none⟩ = some (.string (mkS px))/\w'.cell? ⟨wr.heap.size,5,none⟩ = some (.string (mkS pe))/\w'.cell? ⟨wr.heap.size,6,none⟩ = some (.int .i64 ok')/\w'.cell? ⟨wr.heap.size,7,none⟩ = some (.string (mkS ox))/\w'.cell? ⟨wr.heap.size,8,none⟩ = some (.string (mkS oe))):=Zz (fun w' hb=>⟨val1_some (HK.o w' hb).1,nine (HK.o w' hb).2⟩);have HVal:Hid (∀ w',Below w0.heap.size w0 w' -> val1 w.heap.size w' = u):=Zz (fun w' hb=>val1_of (HK.o w' hb).1);have HK3:Hid (∀ W w',Below w0.heap.size w0 W -> W.grownBy w' u.ownBlock -> Below (w.heap.size + 1) w0 w' -> w'.cell? ⟨w.heap.size,1,none⟩ = some (val1 w.heap.size w')/\w'.cell? ⟨wr.heap.size,0,none⟩ = some (.int .i64 sk)/\w'.cell? ⟨wr.heap.size,1,none⟩ = some (.string (mkS sx))/\w'.cell? ⟨wr.heap.size,2,none⟩ = some (.string (mkS se))/\w'.cell? ⟨wr.heap.size,3,none⟩ = some (.int .i64 pk)/\w'.cell? ⟨wr.heap.size,4,none⟩ = some (.string (mkS px))/\w'.cell? ⟨wr.heap.size,5,none⟩ = some (.string (mkS pe))/\w'.cell? ⟨wr.heap.size,6,none⟩ = some (.int .i64 ok')/\w'.cell? ⟨wr.heap.size,7,none⟩ = some (.string (mkS ox))/\w'.cell? ⟨wr.heap.size,8,none⟩ = some (.string (mkS oe))):=Zz (fun W w' hb h1 h2=>⟨val1_some (HKg.o W w' hb h1 h2).1,nine (HKg.o W w' hb h1 h2).2⟩);have HK4:Hid (∀ W w5 V,Below w0.heap.size w0 W -> W.grownBy w5 u.ownBlock -> Below (w.heap.size + 1) w0 w5 -> (fun w'=>w'.cell? ⟨w.heap.size,1,none⟩ = some (val1 w.heap.size w')/\w'.cell? ⟨wr.heap.size,0,none⟩ = some (.int .i64 sk)/\w'.cell? ⟨wr.heap.size,1,none⟩ = some (.string (mkS sx))/\w'.cell? ⟨wr.heap.size,2,none⟩ = some (.string (mkS se))/\w'.cell? ⟨wr.heap.size,3,none⟩ = some (.int .i64 pk)/\w'.cell? ⟨wr.heap.size,4,none⟩ = some (.string (mkS px))/\w'.cell? ⟨wr.heap.size,5,none⟩ = some (.string (mkS pe))/\w'.cell? ⟨wr.heap.size,6,none⟩ = some (.int .i64 ok')/\w'.cell? ⟨wr.heap.size,7,none⟩ = some (.string (mkS ox))/\w'.cell? ⟨wr.heap.size,8,none⟩ = some (.string (mkS oe))) (w5.setCell ⟨w.heap.size,1,none⟩ V)):=Zz (fun W w5 V hb h1 h2=>⟨val1_some (World.cell?_setCell_same _ _ _ (HKg.o W w5 hb h1 h2).1),nine (C9.other (HKg.o W w5 hb h1 h2).2 (by omega))⟩);clear HK HKg;go_upto_region 5 with fail
   rw [HW.o];clear z0 z1 z2 z3 z4 z5 z6 z7 z8 HW;obtain ⟨k1,k2,k3,k4,k5,k6,k7,k8,k9,k10⟩:=HK2.o _ (bR _ _);rw [HVal.o _ (bR _ _)] at k1;have k11:(w0.alloc (.cells #[.int .i64 sk,.string (mkS sx),.string (mkS se),.int .i64 pk,.string (mkS px),.string (mkS pe),.int .i64 ok',.string (mkS ox),.string (mkS oe)] 24)).cell? ⟨w.heap.size,1,none⟩ = some u:=by
    have hb:Below w0.heap.size w0 (w0.alloc (.cells #[.int .i64 sk,.string (mkS sx),.string (mkS se),.int .i64 pk,.string (mkS px),.string (mkS pe),.int .i64 ok',.string (mkS ox),.string (mkS oe)] 24)):=bel_alloc (bR _ _) _;rw [(HK2.o _ hb).1,HVal.o _ hb]
   go_region_law ((refine Kd.own_app_step termK (w0:=w0) (w.heap.size + 1) (by rfl) (.tmp 22) (.tmp 29) 31 24 Clones.zero_term 40 (by rfl) underlying31 Clones.info_term rfl (by decide) u (inTriples (T.take i)) [⟨sk,sx,se⟩,⟨pk,px,pe⟩,⟨ok',ox,oe⟩] (some ⟨w0.heap.size,0,none⟩) 3 FF (by rfl) (by rfl) ?ho (.inr ⟨?hr,Clones.any_term⟩) ?hb ?hs ?hl ?_;go_loud (case hl=>(have:=HLn.o;simp;omega));go_loud (case ho=>repeat (first | exact HO0.o | refine Kd.own_drew ?_ | refine Kd.own_alloc ?_ _));go_loud (case hr=>exact HTR.o _);go_loud (case hb=>refine Below.mono (B:=w0.heap.size) ?_ HS0.o.lt;repeat (first | exact bR _ _ | refine bel_alloc ?_ _ | refine bel_drew ?_));go_loud (case hs=>have:=HS0.o.lt;simp;omega);intro v1 w5 ho5 hb5 hg5 hv5;rw [HSn.o] at ho5;obtain ⟨A1,cap1,rfl,_,_⟩:=Kd.own_slice ho5;have HK5:=Zz (HK3.o _ _ (by repeat (first | exact bR _ _ | refine bel_alloc ?_ _ | refine bel_drew ?_)) hg5 hb5);have HK6:=Zz (HK4.o _ _ (.slice A1 (inTriples (T.take (i + 1))).length cap1) (by repeat (first | exact bR _ _ | refine bel_alloc ?_ _ | refine bel_drew ?_)) hg5 hb5);dsimp only at HK6;have HO5:=Zz ho5;have HS5:=Zz (HS0.o.below hb5);have HSt:=Zz (HS5.o.set1 (.slice A1 (inTriples (T.take (i + 1))).length cap1));have HOt:=Zz (own_set_other (o:=1) (u:=.slice A1 (inTriples (T.take (i + 1))).length cap1) ho5 (Nat.lt_succ_self _));have f1:=HS5.o.free 1;have e1:=HS5.o.c1;clear ho5 hb5 hg5 hv5))
   all_goals clear HK5 HK6 HS5 HO5 f1 e1
   all_goals go_wp2
   all_goals go_roundw
   all_goals first | exact ⟨i + 1,_,by go_num,by omega,HSt,HOt⟩ | (simp [intOf];omega)
  ·
   have hd:decide (i < T.length) = false:=dF hlt;obtain rfl:i = T.length:=by omega
   rw [List.take_length] at HO;have hLn:(inTriples T).length <= 300:=by rw [inT_len];omega
   have hg1:w.heap.size + 1 <= wr.heap.size:=HS.o.lt;have HSrt:=Zz (sort_terms (inTriples T) (fun t ht=>by
    have:=ParseP.is_small (inTriples_is HV.o t ht);unfold SmallM;omega) u (w.heap.size + 1) FF wr HO.o)
   have hown:=fun k hk=>(Kd.own_lt HO.o k hk).1
   have c1:=HS.o.c1;go_wp2_with fail;refine HSrt.o.mono ?_;rintro e w2 ⟨rfl,R,hperm,hsrt,hoR,hgr⟩;have hbg:Below (w.heap.size + 1) wr w2:=Below.grown (bR _ _) hgr hg1 (fun j hj=>hown j hj);have HS2:=Zz (HS.o.below hbg);have HCp:=Zz (compact_own R (by rw [hperm.length_eq];omega) (fun t ht=>by
    have:=ParseP.is_small (inTriples_is HV.o t (hperm.mem_iff.1 ht));unfold FitsW;omega) u (w.heap.size + 1) w2 HS2.o.lt hoR)
   rw [compact_terms HV.o hperm hsrt] at HCp;have d1:=HS2.o.c1;clear c1 HSrt HS HO hgr hoR hperm hsrt hbg hown;go_wp2_with fail;refine HCp.o.mono ?_;rintro e w3 ⟨A1,c1,rfl,hM1,hb3⟩;have HS3:=Zz (HS2.o.below hb3);have HT3:Hid (TS w (w3.setCell ⟨w.heap.size,1,none⟩ (.slice A1 (termsT T).length c1)) w3.heap.size (.slice A T.length c) (.pointer none) (termsT T) A1 c1):=Zz (by
    refine ⟨HS3.o.set1 _,by simp,HS3.o.lt,?_⟩;have h1:termK.sl.M w3 (fun k=>w.heap.size < k/\k < w3.heap.size) (termsT T) [.slice A1 (termsT T).length c1]:=termK.sl.mono (fun k hk hlt=>⟨hk,hlt⟩) hM1;exact termK.sl.move (fun k hk _=>Below.heap_setCell _ _ _ _ (fun e=>by have e2:k = w.heap.size:=e;have:=hk.1;omega)) h1)
   have f1:=HS3.o.free 1;have e1:=HS3.o.c1;obtain ⟨B0,hB0⟩:∃ B0,B0 = w3.heap.size:=⟨_,rfl⟩;rw [<- hB0] at HT3;have HZ0:Hid (idsK.own 40 (w3.setCell ⟨w.heap.size,1,none⟩ (.slice A1 (termsT T).length c1)) B0 FF (.slice none 0 0) ((idsT T).take 0)):=Zz (Kd.own_nil _ _ _ _ _);clear hM1 hb3 HS3 HCp HS2 d1 hB0;go_wp2;go_loopw [6,49] (fun v6 vi wr=>∃ (i:Nat) (u:Value),u = v6/\vi = .int .i64 i/\i <= T.length/\Hid (TS w wr B0 (.slice A T.length c) (.pointer none) (termsT T) A1 c1)/\Hid (idsK.own 40 wr B0 FF u ((idsT T).take i))) (fun _ vi _=>T.length - (intOf vi).toNat)
   case atStart=>exact ⟨0,_,rfl,rfl,by omega,HT3,HZ0⟩
   case round =>
    obtain ⟨i,u2,rfl,rfl,hi2,HT,HO⟩:=hrel;clear HT3 HZ0 f1 e1;by_cases hlt2:i < T.length
    ·
     have hd2:decide (i < T.length) = true:=dT hlt2;have ik:(i:Int) < (T.length:Int):=by omega
     obtain ⟨b,off,rfl,hbs,hcells⟩:=HRow.o i hlt2;obtain ⟨t,ht⟩:∃ t,t = T[i]:=⟨_,rfl⟩;have hcx:=(hcells i hlt2).below HT.o.ms.bel;rw [<- ht] at hcx;obtain ⟨z0,z1,z2,z3,z4,z5,z6,z7,z8⟩:=hcx;have hti:t ∈ T:=by rw [ht];exact Zm hlt2
     have HSn:=Zz (idsT_snoc T i hlt2);rw [<- ht] at HSn;have HLn:Hid (((idsT T).take i).length <= 100):=Zz (by rw [Zi];omega);have hbx:Below wr.heap.size wr (wr.alloc (.cells (triL t).toArray 36)):=bel_alloc (bR _ _) _;have hnx:=C9.new wr t;obtain ⟨w0,hw0⟩:∃ w0,w0 = wr.alloc (.cells (triL t).toArray 36):=⟨_,rfl⟩;rw [<- hw0] at hnx hbx;have HW:Hid (wr.alloc (.cells (triL t).toArray 36) = w0):=Zz hw0.symm;have HT0:=Zz (HT.o.below (hbx.mono HT.o.hB));have HO0:=Zz (Kd.own_below HO.o hbx);have HID:Hid (∀ (p:QT.Bel w0) (y:Term),y ∈ inTriples T -> Calls Tryz.prog 18 #[.pointer (some ⟨w.heap.size,0,none⟩),Ref5.termV y] p.w fun e w'=>e = .returned (.int .i64 (idOf (termsT T) y:Nat))/\Below p.w.heap.size p.w w'):=Zz (fun p y hy=>by
      have hTp:=HT0.o.below (p.bel.mono HT0.o.hB);have hsm:∀ x,is x = true -> SmallM x:=fun x hx=>by have:=ParseP.is_small hx;unfold SmallM;omega
      exact id_calls (termsT T) y (termsT_rise HV.o) (fun x hx=>hsm x (termsT_is HV.o x hx)) (hsm y (inTriples_is HV.o y hy)) w.heap.size A1 c1 p.w hTp.ms.c1 (Kd.M_bound hTp.row) (by have:=terms_len HV.o;omega))
     obtain ⟨m1,m2,m3⟩:=mem_three hti;have HI1:=Zz (fun p=>HID.o p _ m1);have HI2:=Zz (fun p=>HID.o p _ m2);have HI3:=Zz (fun p=>HID.o p _ m3);have HFit:Hid (FitsI (idsOf (termsT T) t)):=Zz (by
      have:=good_ids HV.o hl (idsOf (termsT T) t) (List.mem_map.2 ⟨t,hti,rfl⟩);obtain ⟨q1,q2,q3⟩:=this;unfold FitsI;omega)
     have HIds:Hid (idsOf (termsT T) t = ⟨idOf (termsT T) t.s,idOf (termsT T) t.p,idOf (termsT T) t.o⟩):=Zz rfl;rw [HIds.o] at HSn HFit;have y0:=fun p=>(hnx.bel p).c0
     have y1:=fun p=>(hnx.bel p).c1
     have y2:=fun p=>(hnx.bel p).c2
     have y3:=fun p=>(hnx.bel p).c3
     have y4:=fun p=>(hnx.bel p).c4
     have y5:=fun p=>(hnx.bel p).c5
     have y6:=fun p=>(hnx.bel p).c6
     have y7:=fun p=>(hnx.bel p).c7
     have y8:=fun p=>(hnx.bel p).c8
     simp only [Nat.zero_add] at y0 y1 y2 y3 y4 y5 y6 y7 y8;clear hcells hbx hw0 ht hnx HID HIds m1 m2 m3 hti;generalize idOf (termsT T) t.s = d1 at *;generalize idOf (termsT T) t.p = d2 at *;generalize idOf (termsT T) t.o = d3 at *;obtain ⟨⟨sk,sx,se⟩,⟨pk,px,pe⟩,⟨ok',ox,oe⟩⟩:=t;unfold triL at HW;unfold Ref5.termV at HI1 HI2 HI3;dsimp only at z0 z1 z2 z3 z4 z5 z6 z7 z8 HW HI1 HI2 HI3 y0 y1 y2 y3 y4 y5 y6 y7 y8;go_upto_region 13 with fail
     rw [HW.o];clear z0 z1 z2 z3 z4 z5 z6 z7 z8 HW;refine QT.region_move 14 _ (.tmp 6) (by kernel_rfl) rfl rfl rfl (by kernel_rfl) (fun _ _ _ h=>h) ?_;simp only [List.take_succ_cons,List.take_zero,List.drop_succ_cons,List.drop_zero,Act.put,Act.eval];go_simp
     iterate 3 (go_big_quiet_step (fail))
     go_big_quiet_step (exact QT.Bel.call _ (HI1.o _))
     iterate 3 (go_big_quiet_step (fail))
     go_big_quiet_step (exact QT.Bel.call _ (HI2.o _))
     iterate 3 (go_big_quiet_step (fail))
     go_big_quiet_step (exact QT.Bel.call _ (HI3.o _))
     iterate 1 (go_big_quiet_step (fail))
     refine wpQuiet_nil ?_;intro pp;obtain ⟨w2,hb2⟩:=pp;dsimp only;have HT2:=Zz (HT0.o.below (hb2.mono HT0.o.hB));have HO2:=Zz (Kd.own_below HO0.o hb2);have hB2:=HT2.o.hB;clear hb2 y0 y1 y2 y3 y4 y5 y6 y7 y8 HT0 HO0 HT HO HI1 HI2 HI3;go_wp2_with (at_builtin;go_loud (refine Kd.own_app1 idsK (w0:=w2) B0 (by rfl) (.tmp 53) (.tmp 67) 48 40 Clones.zero_ids 24 (by rfl) underlying48 Clones.info_ids rfl (by decide) u2 ((idsT T).take i) ⟨d1,d2,d3⟩ [.int .i64 (d1:Nat),.int .i64 (d2:Nat),.int .i64 (d3:Nat)] FF (by rfl) (by rfl) HO2.o ⟨rfl,HFit.o⟩ (bR _ _) hB2 ?hl ?_);go_loud (case hl=>(have:=HLn.o;omega));go_loud (intro v1 w5 ho5 hb5 _ _;rw [HSn.o] at ho5;have HO5:=Zz ho5;have HT5:=Zz (HT2.o.below hb5);clear ho5 hb5))
     go_wp2;go_roundw
     case rel=>exact ⟨i + 1,v1,rfl,by go_num,by omega,HT5,HO5⟩
     case measure=>simp [intOf];omega
    ·
     have hd2:decide (i < T.length) = false:=dF hlt2;obtain rfl:i = T.length:=by omega
     have HLenI:Hid ((idsT T).length = T.length):=Zz (by unfold idsT;simp);have hoI:idsK.own 40 wr B0 FF u2 (idsT T):=by
      have:=HO.o
      rwa [List.take_of_length_le (by have:=HLenI.o;omega)] at this
     have hown:=fun k hk=>(Kd.own_lt hoI k hk).1
     have HSrt:=Zz (sort_ids (idsT T) (idsT_rise HV.o HR.o) u2 B0 FF wr hoI);clear hoI HO;go_wp2_with fail;refine HSrt.o.mono ?_;rintro e w2 ⟨rfl,ho2,hg2⟩;have hb2:Below B0 wr w2:=Below.grown (bR _ _) hg2 HT.o.hB (fun j hj=>hown j hj);have HT2:=Zz (HT.o.below hb2);have hMI:=Kd.M_bound (Kd.own_sl (ok':=fun _=>True) ho2 (fun _ _=>trivial) (fun _ _=>trivial));obtain ⟨A5,c5,rfl,_,_⟩:=Kd.own_slice ho2;have HRg:=Zz (ring_calls (idsT T) (by have:=HLenI.o;omega) (good_ids HV.o hl) (idsT_rise HV.o HR.o) A5 c5 w2 hMI);clear ho2 hg2 hb2 hMI HSrt hown HT;go_wp2_with fail;refine HRg.o.mono ?_;rintro e w3 ⟨⟨gr,rfl,hring⟩,hb3⟩;have HT3:=Zz (HT2.o.below (hb3.mono HT2.o.hB));have HFin:=Zz (finish HT3.o (hring.mono (fun k hk _=>Zh HT2.o.hB hk)) HM.o);have f2:=HT3.o.ms.free 2;have e2:=HT3.o.ms.c2;clear hring hb3 HRg HT2;go_wp2;go_ret;exact ⟨⟨_,rfl,HFin.o.1⟩,HFin.o.2⟩
end Made
namespace ParseOk
open Go.RowKit Go.Lib B Rd TermPure LinesPure Tri SortP Print ParseP
theorem sortT_valid {l:List Triple} (h:Valid l):Valid (sortT l):=fun x hx=>h x ((sortT_mem h x).1 hx)
theorem put_len:∀ (l:List Triple) (t:Triple),(putT l t).length <= l.length + 1
 | [],t=>by simp [putT]
 | y :: l,t=>by
  have:=put_len l t
  rw [putT]
  split
  ·
   simp;omega
  ·
   split <;> simp
theorem fold_len:∀ (l acc:List Triple),(l.foldl putT acc).length <= acc.length + l.length
 | [],acc=>by simp
 | t :: l,acc=>by
  have h1:=fold_len l (putT acc t)
  have h2:=put_len acc t
  simp only [List.foldl_cons,Zc]
  omega
theorem sortT_len (l:List Triple):(sortT l).length <= l.length:=by
 have:=fold_len l [];unfold sortT;simpa using this
theorem pgo_good:∀ (f:Nat) (s:List UInt8) (T:List Triple) (n:Nat),Valid T -> T.length <= 100 -> (pgo f s T n).2.2 = 0 -> ∃ U,Valid U/\U.length <= 100/\(pgo f s T n).1 = sortT U
 | 0,s,T,n,hv,hl,h=>⟨T,hv,hl,rfl⟩
 | f + 1,s,T,n,hv,hl,h=>by
  rw [pgo] at h |-
  by_cases hs:s = []
  ·
   rw [if_pos hs] at h |-
   exact ⟨T,hv,hl,rfl⟩
  rw [if_neg hs] at h |-
  by_cases hn:200 < n + 1
  ·
   rw [if_pos hn] at h
   simp at h
  rw [if_neg hn] at h |-
  cases hlo:lineOf false (lineS s) with
  | none=>rw [hlo] at h;simp at h
  | some o =>
   cases o with
   | none =>
    rw [hlo] at h
    dsimp only at h |-
    exact pgo_good f (restS s) T (n + 1) hv hl h
   | some t =>
    rw [hlo] at h
    dsimp only at h |-
    by_cases ht:t ∈ T
    ·
     rw [if_pos ht] at h |-
     exact pgo_good f (restS s) T (n + 1) hv hl h
    rw [if_neg ht] at h |-
    by_cases hm:100 < T.length + 1
    ·
     rw [if_pos hm] at h
     simp at h
    rw [if_neg hm] at h |-
    refine pgo_good f (restS s) (T ++ [t]) (n + 1) (fun x hx=>(Zk.1 hx).elim (hv x) (fun hx=>?_)) (by simp;omega) h
    simp at hx
    subst hx
    exact lineOf_is hlo
theorem parse_good {s:List UInt8} (h:(parse s).2.2 = 0):Valid (parse s).1/\Rise (parse s).1/\(parse s).1.length <= 100:=by
 rw [parse] at h |-;by_cases hl:20000 < s.length
 ·
  rw [if_pos hl] at h;simp at h
 rw [if_neg hl] at h |-;obtain ⟨U,hv,hn,he⟩:=pgo_good s.length s [] 0 (fun _ h=>by cases h) (by simp) h;rw [show pg s [] 0 = pgo s.length s [] 0 from rfl,he];exact ⟨sortT_valid hv,sortT_rise hv,Zh (sortT_len U) hn⟩
theorem line_valid {t:Triple} (h:isTriple t = true):(lineN t).length <= 1300:=by
 obtain ⟨h1,h2,h3⟩:=isT_parts h;have k1:=is_small h1;have k2:=is_small h2;have k3:=is_small h3;have l1:=shown_len t.s;have l2:=shown_len t.p;have l3:=shown_len t.o;unfold lineN;simp only [Zl,Zc,List.length_nil];omega
theorem flat_all:∀ l:List Triple,Valid l -> (l.flatMap lineN).length <= 1300 * l.length
 | [],_=>by simp
 | t :: l,h=>by
  have h1:=line_valid (h t (by simp))
  have h2:=flat_all l (fun x hx=>h x (by simp [hx]))
  simp only [List.flatMap_cons,Zl,Zc]
  omega
theorem flat_valid {l:List Triple} (h:Valid l) (hl:l.length <= 100):(l.flatMap lineN).length <= 130000:=by
 have:=flat_all l h;omega
end ParseOk
namespace StoreM
open Go.RowKit Go.Lib B Rd TermPure LinesPure Tri SortP OrdG TermW Print Cmp StoreW Clones Env ParseP Parse ParseOk
open Go.Proofs.YtnplommdgfgboaaGreatDoor.Clones (TT)
theorem load_good (s:List UInt8) (hs:s.length <= 140737488355328) (w:World) (he:Env w) (h0:(parse s).2.2 = 0) :
  Calls Tryz.prog 15 #[.string (mkS s)] w fun e w'=>(∃ g,e = .returned (.tuple #[.pointer (some ⟨g,0,none⟩),.int .i64 (parse s).2.1,.int .i64 0])/\StoreAt w' (fun k=>w.heap.size <= k) g (parse s).1)/\Below w.heap.size w w':=by
 obtain ⟨hv,hr,hl⟩:=parse_good h0;have HP:=Zz (parse_calls s hs w he);have HMd:=Zz (fun A c w1 HL=>Made.made_calls (parse s).1 hv hr hl A c w1 (fun k=>w.heap.size <= k) HL);generalize parse s = r at *;obtain ⟨T,n,er⟩:=r;dsimp only at h0;subst h0;clear hv hr hl he;dsimp only at *;go_enter func15,ntmps15;go_wp2_with fail;refine HP.o.mono ?_;rintro e w1 ⟨A1,c1,rfl,hM1,hb1⟩;have HB1:=Zz hb1;dsimp only at hM1;have HMd1:=Zz (HMd.o A1 c1 w1 (triK.sl.mono (fun k hk _=>hk.1) hM1));clear hM1 hb1 HP HMd;dsimp only;go_wp2_with fail;refine HMd1.o.mono ?_;rintro e w2 ⟨⟨g,rfl,hS⟩,hb2⟩;have HS:=Zz (hS.mono (ok':=fun k=>w.heap.size <= k) (fun k hk _=>hk.elim id (fun h=>Zh HB1.o.size h)));have HB2:=Zz (bel_step HB1.o hb2);clear hS hb2 HMd1;go_wp2;go_ret3;exact ⟨⟨g,rfl,HS.o⟩,HB2.o⟩
theorem triples_calls (T:List Triple) (hT:T.length <= 100) (g:Nat) (w:World) (ok:Nat -> Prop) (h:StoreAt w ok g T) :
  Calls Tryz.prog 34 #[.pointer (some ⟨g,0,none⟩)] w fun e w'=>(∃ v,e = .returned v/\triK.own 36 w' w.heap.size TT v T)/\Below w.heap.size w w':=by
 obtain ⟨_,⟨A,c,hc,hM⟩,_⟩:=h;have HC:=Zz (SortW.clone_calls T A c w (triK.sl.mono (fun k _ _=>trivial) hM) (by omega));clear hM;go_enter func34,ntmps34;go_wp2_with fail;refine HC.o.mono ?_;rintro e w1 ⟨⟨v,rfl,ho⟩,hb⟩;have HO:=Zz ho;have HB:=Zz hb;clear ho hb HC hc;go_wp2;go_ret;exact ⟨⟨v,rfl,HO.o⟩,HB.o⟩
theorem terms_calls (T:List Triple) (hT:(termsT T).length <= 300) (g:Nat) (w:World) (ok:Nat -> Prop) (h:StoreAt w ok g T) :
  Calls Tryz.prog 16 #[.pointer (some ⟨g,0,none⟩)] w fun e w'=>(∃ v,e = .returned v/\termK.own 24 w' w.heap.size TT v (termsT T))/\Below w.heap.size w w':=by
 obtain ⟨_,_,⟨A,c,hc,hM⟩,_⟩:=h;have HC:=Zz (clone_term_calls (termsT T) A c w (termK.sl.mono (fun k _ _=>trivial) hM) (by omega));generalize termsT T = R at *;clear hM;go_enter func16,ntmps16;go_wp2_with fail;refine HC.o.mono ?_;rintro e w1 ⟨⟨v,rfl,ho⟩,hb⟩;have HO:=Zz ho;have HB:=Zz hb;clear ho hb HC hc;go_wp2;go_ret;exact ⟨⟨v,rfl,HO.o⟩,HB.o⟩
theorem len_calls (T:List Triple) (hT:T.length <= 100) (g:Nat) (w:World) (ok:Nat -> Prop) (h:StoreAt w ok g T) :
  Calls Tryz.prog 24 #[.pointer (some ⟨g,0,none⟩)] w fun e w'=>e = .returned (.int .i64 (T.length:Nat))/\Below w.heap.size w w':=by
 have HC:=Zz (triples_calls T hT g w ok h);clear h;go_enter func24,ntmps24;go_wp2_with fail;refine HC.o.mono ?_;rintro e w1 ⟨⟨v,rfl,ho⟩,hb⟩;obtain ⟨A1,c1,rfl,_,_⟩:=Kd.own_slice ho;have HB:=Zz hb;clear ho hb HC;go_wp2;go_ret;exact ⟨rfl,HB.o⟩
theorem export_calls (T:List Triple) (hv:Valid T) (hT:T.length <= 100) (g:Nat) (w:World) (ok:Nat -> Prop) (h:StoreAt w ok g T) :
  Calls Tryz.prog 29 #[.pointer (some ⟨g,0,none⟩)] w fun e w'=>e = .returned (.string (mkS (T.flatMap lineN)))/\Below w.heap.size w w':=by
 have HC:=Zz (triples_calls T hT g w ok h);have hsm:∀ t ∈ T,SmallT t:=fun t ht=>(valid_small (hv t ht)).1
 have hfl:=flat_valid hv hT;have HPr:=Zz (fun A c w1 HL=>print_calls T A c w1 HL hsm (by omega));clear h hv hsm hfl;go_enter func29,ntmps29;go_wp2_with fail;refine HC.o.mono ?_;rintro e w1 ⟨⟨v,rfl,ho⟩,hb⟩;have HB:=Zz hb;obtain ⟨A1,c1,rfl,_,_⟩:=Kd.own_slice ho;have HP1:=Zz (HPr.o A1 c1 w1 (Kd.M_bound (Kd.own_sl (ok:=fun _=>True) ho (fun k hk=>trivial) (fun k hk=>trivial))));clear ho hb HC HPr;go_wp2_with fail;refine HP1.o.mono ?_;rintro e w2 ⟨rfl,hb⟩;have HB2:=Zz (bel_step HB.o hb);clear hb HP1;go_wp2;go_ret;exact ⟨rfl,HB2.o⟩
end StoreM
namespace Known11
open Go.RowKit Go.Lib B Rd TermPure LinesPure Tri SortP OrdG Env ParseP StoreW StoreM
def T1:Triple:=⟨⟨1,[97],[]⟩,⟨1,[98],[]⟩,⟨1,[99],[]⟩⟩
theorem parse0:parse [] = ([],0,0):=by decide +kernel
theorem parse1:parse [60,97,62,32,60,98,62,32,60,99,62,32,46] = ([T1],1,0):=by decide +kernel
theorem print1:[T1].flatMap Print.lineN = [60,97,62,32,60,98,62,32,60,99,62,32,46,10]:=by decide +kernel
theorem valid1:Valid [T1]:=by
 intro t ht;simp at ht;subst ht;decide +kernel
theorem known_calls (w:World) (he:Env w):Calls Tryz.prog 19 #[] w fun e w'=>e = .returned (.bool true)/\Below w.heap.size w w':=by
 have HA:=Zz (load_good [] (by decide) w he (by rw [parse0]));rw [parse0] at HA;have HB:=Zz (fun w he=>load_good [60,97,62,32,60,98,62,32,60,99,62,32,46] (by decide) w he (by rw [parse1]));simp only [parse1] at HB;rw [show mkS [] = ⟨#[]⟩ from rfl] at HA;rw [show mkS [60,97,62,32,60,98,62,32,60,99,62,32,46] = ⟨#[60,97,62,32,60,98,62,32,60,99,62,32,46]⟩ from rfl] at HB;have HE:=Zz he;clear he;go_enter func19,ntmps19;go_wp2_with fail;refine HA.o.mono ?_;rintro e w1 ⟨⟨g1,rfl,hS1⟩,hb⟩;have HB1:=Zz hb;have HS1:=Zz hS1;have HBw:=Zz (HB.o w1 (HE.o.below hb));clear hb hS1 HA HB;dsimp only;go_wp2_with fail;refine HBw.o.mono ?_;rintro e w2 ⟨⟨g2,rfl,hS2⟩,hb⟩;have HB2:=Zz (bel_step HB1.o hb);have HS2:=Zz hS2;have HL1:=Zz (len_calls [] (by decide) g1 w2 _ (HS1.o.below hb));clear hb hS2 HBw;dsimp only;go_wp2_with fail;refine HL1.o.mono ?_;rintro e w3 ⟨rfl,hb⟩;have HB3:=Zz (bel_step HB2.o hb);have HS3:=Zz (HS2.o.below hb);have HL2:=Zz (len_calls [T1] (by decide) g2 w3 _ HS3.o);clear hb HL1 HS2;go_wp2_with fail;refine HL2.o.mono ?_;rintro e w4 ⟨rfl,hb⟩;have HB4:=Zz (bel_step HB3.o hb);have HS4:=Zz (HS3.o.below hb);have HX:=Zz (export_calls [T1] valid1 (by decide) g2 w4 _ HS4.o);rw [print1] at HX;clear hb HL2 HS3;have m1:=mkS_toList [60,97,62,32,60,98,62,32,60,99,62,32,46,10];have m2:(⟨#[60,97,62,32,60,98,62,32,60,99,62,32,46,10]⟩:ByteArray).toList = [60,97,62,32,60,98,62,32,60,99,62,32,46,10]:=mkS_toList [60,97,62,32,60,98,62,32,60,99,62,32,46,10];go_wp2_with fail;refine HX.o.mono ?_;rintro e w5 ⟨rfl,hb⟩;have HB5:=Zz (bel_step HB4.o hb);clear hb HX;go_wp2;go_ret;exact ⟨rfl,HB5.o⟩
end Known11
namespace Long11
open Go.RowKit Go.Lib B Rd TermPure LinesPure Tri SortP Print Long Env
end Long11
namespace SortW
open Go.RowKit Go.Lib B Rd Utf TermPure LinesPure Tx Env Tri SortP Print Cmp Long
theorem refprint_calls (l:List Triple) (A:Option Addr) (c:Nat) (w:World) (HL:triK.sl.M w (fun k=>k < w.heap.size) l [.slice A l.length c]) (hs:∀ t ∈ l,SmallT t) (hn:(l.flatMap lineN).length <= 140737488355328) :
  Calls Tryz.prog 14 #[.slice A l.length c] w fun e w'=>e = .returned (.string (mkS (l.flatMap lineN)))/\Below w.heap.size w w':=by
 have HR:=Zz (row_cells HL);have HS:=Zz hs;have HN:=Zz hn;have h47:=sl_len HL;clear HL hs hn;go_enter func14,ntmps14;go_wp2;go_loopw [3,4] (fun v3 vi wr=>∃ (k:Nat) (S:List UInt8),vi = .int .i64 k/\v3 = .string (mkS S)/\k <= l.length/\Hid (S = (l.take k).flatMap lineN/\Below w.heap.size w wr)) (fun _ vi _=>l.length - (intOf vi).toNat)
 case atStart=>exact ⟨0,[],rfl,rfl,by omega,Zz ⟨rfl,bR _ _⟩⟩
 case round =>
  obtain ⟨k,S,rfl,rfl,hkL,HI⟩:=hrel;by_cases hlt:k < l.length
  ·
   have hd:decide (k < l.length) = true:=dT hlt;have ik:(k:Int) < (l.length:Int):=by omega
   obtain ⟨b,off,rfl,hbs,hcells⟩:=HR.o k hlt;have hcx:=(hcells k hlt).below HI.o.2;obtain ⟨x,hx⟩:∃ x,x = l[k]:=⟨_,rfl⟩;rw [<- hx] at hcx;have fs:=HS.o x (by rw [hx];exact Zm hlt);have HT:=Zz (flat_take l k hlt);rw [<- hx,<- HI.o.1] at HT;have hle:=flat_le HN.o k hlt (x:=lineN x) (by rw [flat_take l k hlt,<- hx]);rw [<- HI.o.1] at hle;have HB:=Zz HI.o.2;clear hx hcells HI;have HS1:=Zz (fun w=>RefCmp.show4_calls x.s fs.1 w);have HS2:=Zz (fun w=>RefCmp.show4_calls x.p fs.2.1 w);have HS3:=Zz (fun w=>RefCmp.show4_calls x.o fs.2.2 w);have HLN:Hid (lineN x = shown x.s ++ (32 :: (shown x.p ++ (32 :: (shown x.o ++ [32,46,10]))))):=Zz rfl;have hlen:(lineN x).length = (shown x.s).length + 1 + (shown x.p).length + 1 + (shown x.o).length + 3:=by rw [HLN.o];simp;omega
   rw [hlen] at hle;clear fs hlen;have x0:=fun p=>(hcx.bel p).c0
   have x1:=fun p=>(hcx.bel p).c1
   have x2:=fun p=>(hcx.bel p).c2
   have x3:=fun p=>(hcx.bel p).c3
   have x4:=fun p=>(hcx.bel p).c4
   have x5:=fun p=>(hcx.bel p).c5
   have x6:=fun p=>(hcx.bel p).c6
   have x7:=fun p=>(hcx.bel p).c7
   have x8:=fun p=>(hcx.bel p).c8
   obtain ⟨⟨sk,sx,se⟩,⟨pk,px,pe⟩,⟨ok,ox,oe⟩⟩:=x;unfold Ref5.termV at HS1 HS2 HS3;dsimp only at *;generalize shown ⟨sk,sx,se⟩ = S1 at *;generalize shown ⟨pk,px,pe⟩ = S2 at *;generalize shown ⟨ok,ox,oe⟩ = S3 at *;have y0:=mkS_size S;have y1:=mkS_size S1;have y2:=mkS_size S2;have y3:=mkS_size S3;have q1:(⟨#[32]⟩:ByteArray).size = 1:=rfl;have q3:(⟨#[32,46,10]⟩:ByteArray).size = 3:=rfl;have z0:(mkS S ++ mkS S1).size = S.length + S1.length:=by rw [ByteArray.size_append,y0,y1]
   have z1:(mkS S ++ mkS S1 ++ (⟨#[32]⟩:ByteArray)).size = S.length + S1.length + 1:=by rw [ByteArray.size_append,z0,q1]
   have z2:(mkS S ++ mkS S1 ++ (⟨#[32]⟩:ByteArray) ++ mkS S2).size = S.length + S1.length + 1 + S2.length:=by rw [ByteArray.size_append,z1,y2]
   have z3:(mkS S ++ mkS S1 ++ (⟨#[32]⟩:ByteArray) ++ mkS S2 ++ (⟨#[32]⟩:ByteArray)).size = S.length + S1.length + 1 + S2.length + 1:=by rw [ByteArray.size_append,z2,q1]
   have z4:(mkS S ++ mkS S1 ++ (⟨#[32]⟩:ByteArray) ++ mkS S2 ++ (⟨#[32]⟩:ByteArray) ++ mkS S3).size = S.length + S1.length + 1 + S2.length + 1 + S3.length:=by rw [ByteArray.size_append,z3,y3]
   have HCat:Hid (mkS S ++ mkS S1 ++ (⟨#[32]⟩:ByteArray) ++ mkS S2 ++ (⟨#[32]⟩:ByteArray) ++ mkS S3 ++ (⟨#[32,46,10]⟩:ByteArray) = mkS (S ++ lineN ⟨⟨sk,sx,se⟩,⟨pk,px,pe⟩,⟨ok,ox,oe⟩⟩)):=Zz (by
    rw [HLN.o,mkS_lit,mkS_lit,mkS_append,mkS_append,mkS_append,mkS_append,mkS_append,mkS_append];simp)
   go_upto_region 5 with fail
   refine QT.region_all (by kernel_rfl) (by kernel_rfl) ?_
   iterate 6 (go_big_quiet_step (fail))
   go_big_quiet_step (exact QT.Bel.call _ (HS1.o _))
   iterate 7 (go_big_quiet_step (fail))
   go_big_quiet_step (exact QT.Bel.call _ (HS2.o _))
   iterate 7 (go_big_quiet_step (fail))
   go_big_quiet_step (exact QT.Bel.call _ (HS3.o _))
   iterate 3 (go_big_quiet_step (fail))
   refine wpQuiet_nil ?_;intro w2 hw';obtain ⟨⟨_,hb⟩,rfl⟩:=hw';have HW2:=Zz (bel_step HB.o hb);clear hb x0 x1 x2 x3 x4 x5 x6 x7 x8 hcx HB;go_wp2;go_roundw
   case rel=>exact ⟨k + 1,_,by go_num,by rw [HCat.o],by omega,Zz ⟨HT.o.symm,HW2.o⟩⟩
   case measure=>simp [intOf];omega
  ·
   have hd:decide (k < l.length) = false:=dF hlt;obtain rfl:k = l.length:=by omega
   have HV:Hid (S = l.flatMap lineN/\Below w.heap.size w wr):=Zz ⟨by rw [HI.o.1,List.take_length],HI.o.2⟩;clear HI;go_wp2;go_ret;rw [<- HV.o.1];exact ⟨rfl,HV.o.2⟩
end SortW
namespace SPrint
open Go.Lib TermPure LinesPure Tri SortP Print ParseP ParseOk
end SPrint
namespace SPrint
open Go.Lib TermPure LinesPure Tri SortP Print ParseP ParseOk
end SPrint
namespace Known
open Go.RowKit Go.Lib B Rd Utf TermPure LinesPure Tx Env Tri Ref5
theorem one_row (w:World) (t:Triple) (ht:FitsW3 t):triK.sl.M (w.alloc (.cells (triL t).toArray 36)) (fun k=>k < (w.alloc (.cells (triL t).toArray 36)).heap.size) [t] [.slice (some ⟨w.heap.size,0,none⟩) 1 1]:=by
 refine ⟨some ⟨w.heap.size,0,none⟩,1,rfl,lR _,⟨by simp,by unfold maxLen;omega⟩,fun h=>(by cases h),fun i x hx=>?_⟩;cases i with
 | zero =>
  simp at hx;subst hx;refine ⟨_,triL t,rfl,by simp,⟨rfl,ht⟩,fun j u hu=>?_⟩;rw [Nat.zero_mul,Nat.zero_add,add_plain,World.cell?,Kd.heap_new];simpa using hu
 | succ i=>simp at hx
end Known
namespace SortW
open Go.RowKit Go.Lib B Rd Utf TermPure LinesPure Tx Env Tri SortP Print Cmp Long
theorem cellsT:(Tryz.prog).cellsOf 36 = triK.sz:=by kernel_rfl
theorem nine {w:World} {g:Nat} {t:Triple} (h:C9 w g 0 t):w.cell? ⟨g,0,none⟩ = some (.int .i64 t.s.kind)/\w.cell? ⟨g,1,none⟩ = some (.string (mkS t.s.text))/\w.cell? ⟨g,2,none⟩ = some (.string (mkS t.s.extra))/\w.cell? ⟨g,3,none⟩ = some (.int .i64 t.p.kind)/\w.cell? ⟨g,4,none⟩ = some (.string (mkS t.p.text))/\w.cell? ⟨g,5,none⟩ = some (.string (mkS t.p.extra))/\w.cell? ⟨g,6,none⟩ = some (.int .i64 t.o.kind)/\w.cell? ⟨g,7,none⟩ = some (.string (mkS t.o.text))/\w.cell? ⟨g,8,none⟩ = some (.string (mkS t.o.extra)):=by
 obtain ⟨c0,c1,c2,c3,c4,c5,c6,c7,c8⟩:=h;simp only [Nat.zero_add] at *;exact ⟨c0,c1,c2,c3,c4,c5,c6,c7,c8⟩
theorem one_grown {W w1:World} {g:Nat} {r:Option Nat} {t:Triple} (ht:FitsW3 t) (h:C9 W g 0 t) (hg:W.grownBy w1 r) (hne:some g ≠ r):triK.sl.M w1 (fun _=>True) [t] [.slice (some ⟨g,0,none⟩) 1 1]:=by
 refine ⟨some ⟨g,0,none⟩,1,rfl,lR _,⟨by simp,by unfold maxLen;omega⟩,fun h=>(by cases h),fun i x hx=>?_⟩;cases i with
 | zero =>
  simp at hx;subst hx;refine ⟨_,triL t,rfl,trivial,⟨rfl,ht⟩,fun j u hu=>?_⟩;rw [Nat.zero_mul,Nat.zero_add,add_plain];obtain ⟨c0,c1,c2,c3,c4,c5,c6,c7,c8⟩:=h.moved (hg.block g h.lt hne);have hj:j < 9:=(List.getElem?_eq_some_iff.1 hu).1
  match j,hj with
  | 0,_=>cases hu;exact c0
  | 1,_=>cases hu;exact c1
  | 2,_=>cases hu;exact c2
  | 3,_=>cases hu;exact c3
  | 4,_=>cases hu;exact c4
  | 5,_=>cases hu;exact c5
  | 6,_=>cases hu;exact c6
  | 7,_=>cases hu;exact c7
  | 8,_=>cases hu;exact c8
 | succ i=>simp at hx
theorem own0_1 (w:World):triK.own 36 (w.alloc (.cells #[] 36)) w.heap.size TT (.slice (some ⟨w.heap.size,0,none⟩) 0 0) []:=
 Kd.own_block (cells:=[]) (xs:=[]) (lR _) (Kd.heap_new _ _) rfl (by simp) (fun i x h=>by simp at h)
theorem own0_2 (w:World) (o:Obj):triK.own 36 ((w.alloc o).alloc (.cells #[] 36)) w.heap.size TT (.slice (some ⟨w.heap.size + 1,0,none⟩) 0 0) []:=by
 have h:=own0_1 (w.alloc o);rw [show (w.alloc o).heap.size = w.heap.size + 1 by simp] at h;exact Kd.own_lower (by omega) h
theorem C9_new1 (w:World) (o:Obj) (t:Triple):C9 ((w.alloc o).alloc (.cells (triL t).toArray 36)).drew (w.heap.size + 1) 0 t:=by
 have h:=C9.new (w.alloc o) t;rw [show (w.alloc o).heap.size = w.heap.size + 1 by simp] at h;exact h.moved rfl
theorem C9_new2 (w:World) (t:Triple) (o:Obj):C9 ((w.alloc (.cells (triL t).toArray 36)).alloc o).drew w.heap.size 0 t:=
 ((C9.new w t).alloc o).moved rfl
theorem putT_same:∀ (l:List Triple) (t:Triple) (i:Nat) (hi:i < l.length),(∀ j (h:j < l.length),j < i -> cmpT l[j] t < 0) -> cmpT l[i] t = 0 -> putT l t = l
 | [],_,_,h,_,_=>by simp at h
 | x :: l,t,0,_,_,h0=>by
  simp at h0
  rw [putT,if_neg (by omega),if_pos h0]
 | x :: l,t,i + 1,hi,hlt,h0=>by
  have h1:=hlt 0 (by simp) (by omega)
  simp at h1
  rw [putT,if_pos h1,putT_same l t i (by simpa using hi) (fun j h hj=>by have:=hlt (j + 1) (by simpa using h) (by omega);simpa using this) (by simpa using h0)]
theorem putT_ins:∀ (l:List Triple) (t:Triple) (i:Nat),i <= l.length -> (∀ j (h:j < l.length),j < i -> cmpT l[j] t < 0) -> (∀ h:i < l.length,0 < cmpT l[i] t) -> putT l t = l.take i ++ [t] ++ l.drop i
 | [],_,i,_,_,_=>by simp [putT]
 | x :: l,t,0,_,_,h0=>by
  have:=h0 (by simp)
  simp at this
  rw [putT,if_neg (by omega),if_neg (by omega)]
  simp
 | x :: l,t,i + 1,hi,hlt,h0=>by
  have h1:=hlt 0 (by simp) (by omega)
  simp at h1
  rw [putT,if_pos h1,putT_ins l t i (by simpa using hi) (fun j h hj=>by have:=hlt (j + 1) (by simpa using h) (by omega);simpa using this) (fun h=>by have:=h0 (by simpa using h);simpa using this)]
  simp
theorem put_calls (l:List Triple) (t:Triple) (A:Option Addr) (c:Nat) (w:World) (HL:triK.sl.M w (fun k=>k < w.heap.size) l [.slice A l.length c]) (hs:∀ x ∈ l,SmallT x) (hst:SmallT t) (hft:FitsW3 t) (hb:l.length <= 1000000) :
  Calls Tryz.prog 50 #[.slice A l.length c,Ref5.tripleV t] w fun e w'=>∃ A' c',e = .returned (.slice A' (putT l t).length c')/\triK.sl.M w' TT (putT l t) [.slice A' (putT l t).length c']/\Below w.heap.size w w':=by
 have HR:=Zz (row_cells HL);have HS:=Zz hs;have HF:=Zz (row_fits HL);have h47:=sl_len HL;obtain ⟨A',c',he,hlc,⟨hl47,hcm⟩,hA,hrow⟩:=HL;obtain ⟨rfl,rfl⟩:A = A'/\c = c':=by simpa using he
 clear he;have HROW:Hid (triK.row w TT A l):=Zz (Kd.row_mono (fun _ _ _=>trivial) hrow);have HC0:=Zz (C9.new w t);have HX:Hid (Ref5.tripleV t = .agg (triL t).toArray):=Zz rfl;clear hrow hs;unfold Ref5.tripleV;go_enter func50,ntmps50;go_wp2;go_loopw [5] (fun vi wr=>∃ i:Nat,vi = .int .i64 i/\i <= l.length/\Hid ((∀ j (h:j < l.length),j < i -> cmpT l[j] t < 0)/\Below w.heap.size w wr/\C9 wr w.heap.size 0 t)) (fun vi _=>l.length - (intOf vi).toNat)
 case atStart=>exact ⟨0,rfl,by omega,Zz ⟨fun j h hj=>by omega,bel_alloc (bR _ _) _,HC0.o⟩⟩
 case round =>
  obtain ⟨i,rfl,hiL,HI⟩:=hrel;clear HC0;by_cases hlt:i < l.length
  ·
   have hd:decide (i < l.length) = true:=dT hlt;have ik:(i:Int) < (l.length:Int):=by omega
   obtain ⟨b,off,rfl,hbs,hcells⟩:=HR.o i hlt;have hcx:=(hcells i hlt).below HI.o.2.1;have hcy:=HI.o.2.2;obtain ⟨x,hx⟩:∃ x,x = l[i]:=⟨_,rfl⟩;rw [<- hx] at hcx;have HCC:=Zz (fun w=>RefCmp.cmp5_calls x t (by rw [hx];exact HS.o _ (Zm hlt)) hst w);obtain ⟨v,hv⟩:∃ v,v = cmpT x t:=⟨_,rfl⟩;rw [<- hv] at HCC;have HNext:Hid (v < 0 -> ∀ j (h:j < l.length),j < i + 1 -> cmpT l[j] t < 0):=Zz (fun h j hj hji=>by
    by_cases e:j = i
    ·
     subst e;rw [<- hx,<- hv];exact h
    ·
     exact HI.o.1 j hj (by omega))
   have HSame:Hid (v = 0 -> putT l t = l):=Zz (fun h=>putT_same l t i hlt HI.o.1 (by rw [<- hx,<- hv];exact h));have HIns:Hid (0 < v -> putT l t = l.take i ++ [t] ++ l.drop i):=Zz (fun h=>putT_ins l t i hiL HI.o.1 (fun h2=>by rw [<- hx,<- hv];exact h));have HIW:=Zz HI.o.2;clear hcells hx hv;by_cases hv0:v < 0
   ·
    have hvd:decide (v < 0) = true:=dT hv0;have HNx:=Zz (HNext.o hv0);clear HNext HSame HIns hv0;obtain ⟨⟨sk,sx,se⟩,⟨pk,px,pe⟩,⟨ok,ox,oe⟩⟩:=x;obtain ⟨⟨sk',sx',se'⟩,⟨pk',px',pe'⟩,⟨ok',ox',oe'⟩⟩:=t;have x0:=fun p=>(hcx.bel p).c0
    have x1:=fun p=>(hcx.bel p).c1
    have x2:=fun p=>(hcx.bel p).c2
    have x3:=fun p=>(hcx.bel p).c3
    have x4:=fun p=>(hcx.bel p).c4
    have x5:=fun p=>(hcx.bel p).c5
    have x6:=fun p=>(hcx.bel p).c6
    have x7:=fun p=>(hcx.bel p).c7
    have x8:=fun p=>(hcx.bel p).c8
    have y0:=fun p=>(hcy.bel p).c0
    have y1:=fun p=>(hcy.bel p).c1
    have y2:=fun p=>(hcy.bel p).c2
    have y3:=fun p=>(hcy.bel p).c3
    have y4:=fun p=>(hcy.bel p).c4
    have y5:=fun p=>(hcy.bel p).c5
    have y6:=fun p=>(hcy.bel p).c6
    have y7:=fun p=>(hcy.bel p).c7
    have y8:=fun p=>(hcy.bel p).c8
    dsimp only at x0 x1 x2 x3 x4 x5 x6 x7 x8 y0 y1 y2 y3 y4 y5 y6 y7 y8;unfold Ref5.tripleV at HCC;dsimp only at HCC;go_upto_region 2 with fail
    refine QT.region_all (by kernel_rfl) (by kernel_rfl) ?_
    iterate 10 (go_big_quiet_step (fail))
    go_big_quiet_step (exact QT.Bel.call _ (HCC.o _))
    iterate 2 (go_big_quiet_step (fail))
    refine wpQuiet_nil ?_;intro w2 hw';obtain ⟨⟨_,hb⟩,rfl⟩:=hw';have HW2:Hid (Below w.heap.size w w2/\C9 w2 w.heap.size 0 ⟨⟨sk',sx',se'⟩,⟨pk',px',pe'⟩,⟨ok',ox',oe'⟩⟩):=Zz ⟨bel_step HIW.o.1 hb,hcy.below hb⟩;clear hb x0 x1 x2 x3 x4 x5 x6 x7 x8 y0 y1 y2 y3 y4 y5 y6 y7 y8 hcx hcy HI HIW;go_wp2;go_roundw
    case rel=>exact ⟨i + 1,by go_num,by omega,Zz ⟨HNx.o,HW2.o⟩⟩
    case measure=>simp [intOf];omega
   ·
    have hvd:decide (v < 0) = false:=dF hv0;by_cases hve0:v = 0
    ·
     have hve:(v == 0) = true:=by rw [hve0];rfl
     have HPut:=Zz (HSame.o hve0);clear HNext HSame HIns hv0;obtain ⟨⟨sk,sx,se⟩,⟨pk,px,pe⟩,⟨ok,ox,oe⟩⟩:=x;obtain ⟨⟨sk',sx',se'⟩,⟨pk',px',pe'⟩,⟨ok',ox',oe'⟩⟩:=t;have x0:=fun p=>(hcx.bel p).c0
     have x1:=fun p=>(hcx.bel p).c1
     have x2:=fun p=>(hcx.bel p).c2
     have x3:=fun p=>(hcx.bel p).c3
     have x4:=fun p=>(hcx.bel p).c4
     have x5:=fun p=>(hcx.bel p).c5
     have x6:=fun p=>(hcx.bel p).c6
     have x7:=fun p=>(hcx.bel p).c7
     have x8:=fun p=>(hcx.bel p).c8
     have y0:=fun p=>(hcy.bel p).c0
     have y1:=fun p=>(hcy.bel p).c1
     have y2:=fun p=>(hcy.bel p).c2
     have y3:=fun p=>(hcy.bel p).c3
     have y4:=fun p=>(hcy.bel p).c4
     have y5:=fun p=>(hcy.bel p).c5
     have y6:=fun p=>(hcy.bel p).c6
     have y7:=fun p=>(hcy.bel p).c7
     have y8:=fun p=>(hcy.bel p).c8
     dsimp only at x0 x1 x2 x3 x4 x5 x6 x7 x8 y0 y1 y2 y3 y4 y5 y6 y7 y8;unfold Ref5.tripleV at HCC;dsimp only at HCC;go_upto_region 2 with fail
     refine QT.region_all (by kernel_rfl) (by kernel_rfl) ?_
     iterate 10 (go_big_quiet_step (fail))
     go_big_quiet_step (exact QT.Bel.call _ (HCC.o _))
     iterate 2 (go_big_quiet_step (fail))
     refine wpQuiet_nil ?_;intro w2 hw';obtain ⟨⟨_,hb⟩,rfl⟩:=hw';have HW2:Hid (Below w.heap.size w w2/\C9 w2 w.heap.size 0 ⟨⟨sk',sx',se'⟩,⟨pk',px',pe'⟩,⟨ok',ox',oe'⟩⟩):=Zz ⟨bel_step HIW.o.1 hb,hcy.below hb⟩;have hcx:=hcx.below hb;have hcy:=HW2.o.2;clear hb x0 x1 x2 x3 x4 x5 x6 x7 x8 y0 y1 y2 y3 y4 y5 y6 y7 y8 HI HIW;go_wp2;have x0:=fun p=>(hcx.bel p).c0
     have x1:=fun p=>(hcx.bel p).c1
     have x2:=fun p=>(hcx.bel p).c2
     have x3:=fun p=>(hcx.bel p).c3
     have x4:=fun p=>(hcx.bel p).c4
     have x5:=fun p=>(hcx.bel p).c5
     have x6:=fun p=>(hcx.bel p).c6
     have x7:=fun p=>(hcx.bel p).c7
     have x8:=fun p=>(hcx.bel p).c8
     have y0:=fun p=>(hcy.bel p).c0
     have y1:=fun p=>(hcy.bel p).c1
     have y2:=fun p=>(hcy.bel p).c2
     have y3:=fun p=>(hcy.bel p).c3
     have y4:=fun p=>(hcy.bel p).c4
     have y5:=fun p=>(hcy.bel p).c5
     have y6:=fun p=>(hcy.bel p).c6
     have y7:=fun p=>(hcy.bel p).c7
     have y8:=fun p=>(hcy.bel p).c8
     dsimp only at x0 x1 x2 x3 x4 x5 x6 x7 x8 y0 y1 y2 y3 y4 y5 y6 y7 y8;go_upto_region 4 with fail
     refine QT.region_all (by kernel_rfl) (by kernel_rfl) ?_
     iterate 10 (go_big_quiet_step (fail))
     go_big_quiet_step (exact QT.Bel.call _ (HCC.o _))
     iterate 2 (go_big_quiet_step (fail))
     refine wpQuiet_nil ?_;intro w2 hw';obtain ⟨⟨_,hb⟩,rfl⟩:=hw';have HB3:=Zz (bel_step HW2.o.1 hb);clear hb x0 x1 x2 x3 x4 x5 x6 x7 x8 y0 y1 y2 y3 y4 y5 y6 y7 y8 hcx hcy HW2;go_wp2;go_ret;rw [HPut.o];exact ⟨_,_,rfl,⟨_,_,rfl,hlc,⟨hl47,hcm⟩,hA,Kd.row_below HROW.o HB3.o⟩,HB3.o⟩
    ·
     have hve:(v == 0) = false:=by rw [Zb];exact hve0
     have HPut:=Zz (HIns.o (by omega));clear HNext HSame HIns hv0 hve0;obtain ⟨⟨sk,sx,se⟩,⟨pk,px,pe⟩,⟨ok,ox,oe⟩⟩:=x;obtain ⟨⟨sk',sx',se'⟩,⟨pk',px',pe'⟩,⟨ok',ox',oe'⟩⟩:=t;have x0:=fun p=>(hcx.bel p).c0
     have x1:=fun p=>(hcx.bel p).c1
     have x2:=fun p=>(hcx.bel p).c2
     have x3:=fun p=>(hcx.bel p).c3
     have x4:=fun p=>(hcx.bel p).c4
     have x5:=fun p=>(hcx.bel p).c5
     have x6:=fun p=>(hcx.bel p).c6
     have x7:=fun p=>(hcx.bel p).c7
     have x8:=fun p=>(hcx.bel p).c8
     have y0:=fun p=>(hcy.bel p).c0
     have y1:=fun p=>(hcy.bel p).c1
     have y2:=fun p=>(hcy.bel p).c2
     have y3:=fun p=>(hcy.bel p).c3
     have y4:=fun p=>(hcy.bel p).c4
     have y5:=fun p=>(hcy.bel p).c5
     have y6:=fun p=>(hcy.bel p).c6
     have y7:=fun p=>(hcy.bel p).c7
     have y8:=fun p=>(hcy.bel p).c8
     dsimp only at x0 x1 x2 x3 x4 x5 x6 x7 x8 y0 y1 y2 y3 y4 y5 y6 y7 y8;unfold Ref5.tripleV at HCC;dsimp only at HCC;go_upto_region 2 with fail
     refine QT.region_all (by kernel_rfl) (by kernel_rfl) ?_
     iterate 10 (go_big_quiet_step (fail))
     go_big_quiet_step (exact QT.Bel.call _ (HCC.o _))
     iterate 2 (go_big_quiet_step (fail))
     refine wpQuiet_nil ?_;intro w2 hw';obtain ⟨⟨_,hb⟩,rfl⟩:=hw';have HW2:Hid (Below w.heap.size w w2/\C9 w2 w.heap.size 0 ⟨⟨sk',sx',se'⟩,⟨pk',px',pe'⟩,⟨ok',ox',oe'⟩⟩):=Zz ⟨bel_step HIW.o.1 hb,hcy.below hb⟩;have hcx:=hcx.below hb;have hcy:=HW2.o.2;clear hb x0 x1 x2 x3 x4 x5 x6 x7 x8 y0 y1 y2 y3 y4 y5 y6 y7 y8 HI HIW;go_wp2;have x0:=fun p=>(hcx.bel p).c0
     have x1:=fun p=>(hcx.bel p).c1
     have x2:=fun p=>(hcx.bel p).c2
     have x3:=fun p=>(hcx.bel p).c3
     have x4:=fun p=>(hcx.bel p).c4
     have x5:=fun p=>(hcx.bel p).c5
     have x6:=fun p=>(hcx.bel p).c6
     have x7:=fun p=>(hcx.bel p).c7
     have x8:=fun p=>(hcx.bel p).c8
     have y0:=fun p=>(hcy.bel p).c0
     have y1:=fun p=>(hcy.bel p).c1
     have y2:=fun p=>(hcy.bel p).c2
     have y3:=fun p=>(hcy.bel p).c3
     have y4:=fun p=>(hcy.bel p).c4
     have y5:=fun p=>(hcy.bel p).c5
     have y6:=fun p=>(hcy.bel p).c6
     have y7:=fun p=>(hcy.bel p).c7
     have y8:=fun p=>(hcy.bel p).c8
     dsimp only at x0 x1 x2 x3 x4 x5 x6 x7 x8 y0 y1 y2 y3 y4 y5 y6 y7 y8;go_upto_region 4 with fail
     refine QT.region_all (by kernel_rfl) (by kernel_rfl) ?_
     iterate 10 (go_big_quiet_step (fail))
     go_big_quiet_step (exact QT.Bel.call _ (HCC.o _))
     iterate 2 (go_big_quiet_step (fail))
     refine wpQuiet_nil ?_;intro w2 hw';obtain ⟨⟨_,hb⟩,rfl⟩:=hw';have HB3:=Zz (bel_step HW2.o.1 hb);have hcz:=hcy.below hb;clear hb x0 x1 x2 x3 x4 x5 x6 x7 x8 y0 y1 y2 y3 y4 y5 y6 y7 y8 hcx hcy HW2;go_wp2;obtain ⟨A1,-,-,htake,hrow1⟩:=Kd.cut_run (P:=Tryz.prog) triK 22 36 underlying22 cellsT zeroV 120 info_tri (some ⟨b,off,none⟩) l.length c 0 i (Nat.zero_le _) hiL hlc ⟨hl47,hcm⟩ hA;obtain ⟨A2,-,hdrop,-,hrow2⟩:=Kd.cut_run (P:=Tryz.prog) triK 22 36 underlying22 cellsT zeroV 120 info_tri (some ⟨b,off,none⟩) l.length c i l.length hiL (lR _) hlc ⟨hl47,hcm⟩ hA;have HQ1:=Zz (hrow1 w TT l rfl HROW.o);have HQ2:=Zz (hrow2 w TT l rfl HROW.o);rw [List.drop_zero] at HQ1;rw [List.take_length] at HQ2;obtain ⟨pre,hpre⟩:∃ pre,pre = l.take i:=⟨_,rfl⟩;obtain ⟨suf,hsuf⟩:∃ suf,suf = l.drop i:=⟨_,rfl⟩;have hpl:pre.length = i:=by rw [hpre,Zi];omega
     have hsl:suf.length = l.length - i:=by rw [hsuf,Zj]
     have hs1:∀ (kh:IntKind) (w:World),(Instr.slice 22 (.slice (some ⟨b,off,none⟩) l.length c) none (some (.int kh (i:Int))) none).run Tryz.prog w = .ok (.slice A1 pre.length c) w:=fun kh w=>by rw [hpl];exact htake kh w rfl
     obtain ⟨c2,hc2⟩:∃ c2,c2 = c - i:=⟨_,rfl⟩;have hs2:∀ (kl:IntKind) (w:World),(Instr.slice 22 (.slice (some ⟨b,off,none⟩) l.length c) (some (.int kl (i:Int))) none none).run Tryz.prog w = .ok (.slice A2 suf.length c2) w:=fun kl w=>by rw [hsl,hc2];exact hdrop kl w rfl
     rw [Nat.sub_zero,Nat.sub_zero,<- hpre,<- hpl] at HQ1;rw [<- hsuf,<- hsl,<- hc2] at HQ2;rw [<- hpre,<- hsuf] at HPut;have hbp:pre.length <= 1000000:=by omega
     have hbs2:suf.length <= 1000000:=by omega
     clear htake hdrop hrow1 hrow2 hpre hsuf hc2;clear hpl hsl;have HZ:=Zz hcz;have hB:=HB3.o;have hY:=bR w2.heap.size w2;obtain ⟨n0,n1,n2,n3,n4,n5,n6,n7,n8⟩:=hcz;dsimp only at n0 n1 n2 n3 n4 n5 n6 n7 n8;go_cut [4] (fun v4 wx=>Hid (triK.own 36 wx w2.heap.size TT v4 (pre ++ [⟨⟨sk',sx',se'⟩,⟨pk',px',pe'⟩,⟨ok',ox',oe'⟩⟩] ++ suf))/\Hid (Below w.heap.size w wx))
     case first =>
      go_region_held3 (fun w'=>w'.cell? ⟨w.heap.size,0,none⟩ = some (Value.int .i64 sk')/\w'.cell? ⟨w.heap.size,1,none⟩ = some (Value.string (mkS sx'))/\w'.cell? ⟨w.heap.size,2,none⟩ = some (Value.string (mkS se'))/\w'.cell? ⟨w.heap.size,3,none⟩ = some (Value.int .i64 pk')/\w'.cell? ⟨w.heap.size,4,none⟩ = some (Value.string (mkS px'))/\w'.cell? ⟨w.heap.size,5,none⟩ = some (Value.string (mkS pe'))/\w'.cell? ⟨w.heap.size,6,none⟩ = some (Value.int .i64 ok')/\w'.cell? ⟨w.heap.size,7,none⟩ = some (Value.string (mkS ox'))/\w'.cell? ⟨w.heap.size,8,none⟩ = some (Value.string (mkS oe')))
       (exact nine (HZ.o.below (by (repeat (first | assumption | exact bR _ _ | refine bel_alloc ?_ _ | refine bel_drew ?_)))))
       (first
        | (refine Kd.own_app_step triK (w0:=w2) w2.heap.size (by rfl) (.tmp 35) (.tmp 38) 22 36 zeroV 120 (by rfl) underlying22 info_tri rfl (by decide) (.slice (some ⟨w2.heap.size,0,none⟩) 0 0) [] pre A1 c TT (by rfl) (by rfl) ?ho (.inr ⟨?hr,any_tri⟩) ?hb ?hs ?hl ?_;go_loud (case hl=>simp;omega);go_loud (case ho=>first | exact own0_1 _ | exact Kd.own_drew (own0_1 _) | exact Kd.own_drew (Kd.own_alloc (own0_1 _) _) | exact Kd.own_drew (own0_2 _ _));go_loud (case hr=>exact Kd.M_below HQ1.o (by (repeat (first | assumption | exact bR _ _ | refine bel_alloc ?_ _ | refine bel_drew ?_))));go_loud (case hb=>repeat (first | assumption | exact bR _ _ | refine bel_alloc ?_ _ | refine bel_drew ?_));go_loud (case hs=>simp;try omega);intro v1 w1 ho1 hb1 hg1 hv1;go_loud (rw [Zf] at ho1);have HO1:=Zz ho1;clear ho1 hv1)
        | (refine Kd.own_app_step triK (w0:=w2) w2.heap.size (by rfl) (.tmp 35) (.tmp 38) 22 36 zeroV 120 (by rfl) underlying22 info_tri rfl (by decide) (.slice (some ⟨w2.heap.size + 1,0,none⟩) 0 0) [] pre A1 c TT (by rfl) (by rfl) ?ho (.inr ⟨?hr,any_tri⟩) ?hb ?hs ?hl ?_;go_loud (case hl=>simp;omega);go_loud (case ho=>first | exact own0_1 _ | exact Kd.own_drew (own0_1 _) | exact Kd.own_drew (Kd.own_alloc (own0_1 _) _) | exact Kd.own_drew (own0_2 _ _));go_loud (case hr=>exact Kd.M_below HQ1.o (by (repeat (first | assumption | exact bR _ _ | refine bel_alloc ?_ _ | refine bel_drew ?_))));go_loud (case hb=>repeat (first | assumption | exact bR _ _ | refine bel_alloc ?_ _ | refine bel_drew ?_));go_loud (case hs=>simp;try omega);intro v1 w1 ho1 hb1 hg1 hv1;go_loud (rw [Zf] at ho1);have HO1:=Zz ho1;clear ho1 hv1)
        | (refine Kd.own_app_step triK (w0:=w2) w2.heap.size (by rfl) (.tmp 39) (.tmp 41) 22 36 zeroV 120 (by rfl) underlying22 info_tri rfl (by decide) v1 pre [⟨⟨sk',sx',se'⟩,⟨pk',px',pe'⟩,⟨ok',ox',oe'⟩⟩] _ 1 TT (by rfl) (by rfl) ?ho (.inr ⟨?hr,any_tri⟩) ?hb ?hs ?hl ?_;go_loud (case hl=>simp;omega);go_loud (case ho=>repeat (first | exact HO1.o | refine Kd.own_drew ?_ | refine Kd.own_alloc ?_ _));go_loud (case hr=>first | exact triK.sl.mono (fun _ _ _=>trivial) (Known.one_row _ ⟨⟨sk',sx',se'⟩,⟨pk',px',pe'⟩,⟨ok',ox',oe'⟩⟩ hft) | (refine one_grown hft ?_ hg1 ?_;(first | exact C9_new1 _ _ ⟨⟨sk',sx',se'⟩,⟨pk',px',pe'⟩,⟨ok',ox',oe'⟩⟩ | exact C9_new2 _ ⟨⟨sk',sx',se'⟩,⟨pk',px',pe'⟩,⟨ok',ox',oe'⟩⟩ _);(simp [Value.ownBlock])));go_loud (case hb=>repeat (first | assumption | exact bR _ _ | refine bel_alloc ?_ _ | refine bel_drew ?_));go_loud (case hs=>have:=hb1.size;first | omega | (simp;omega));intro v2 w4 ho2 hb2 hg2 hv2;have HO2:=Zz ho2;clear ho2 hg2 hv2)
        | (refine Kd.own_app_step triK (w0:=w2) w2.heap.size (by rfl) (.tmp 42) (.tmp 45) 22 36 zeroV 120 (by rfl) underlying22 info_tri rfl (by decide) v2 (pre ++ [⟨⟨sk',sx',se'⟩,⟨pk',px',pe'⟩,⟨ok',ox',oe'⟩⟩]) suf A2 c2 TT (by rfl) (by rfl) ?ho (.inr ⟨?hr,any_tri⟩) ?hb ?hs ?hl ?_;go_loud (case hl=>simp;omega);go_loud (case ho=>repeat (first | exact HO2.o | refine Kd.own_drew ?_ | refine Kd.own_alloc ?_ _));go_loud (case hr=>exact Kd.M_below HQ2.o (bel_step hB (by (repeat (first | assumption | exact bR _ _ | refine bel_alloc ?_ _ | refine bel_drew ?_)))));go_loud (case hb=>repeat (first | assumption | exact bR _ _ | refine bel_alloc ?_ _ | refine bel_drew ?_));go_loud (case hs=>have:=hb2.size;first | omega | (simp;omega));intro v3 w5 ho3 hb3 hg3 hv3;have HO3:=Zz ho3;clear ho3 hg3 hv3)
        | fail)
      all_goals (go_wp2_with fail;go_meet;exact ⟨HO3,Zz (bel_step hB hb3)⟩)
     case rest =>
      obtain ⟨HO,HB6⟩:=hcut;obtain ⟨A9,c9,rfl,_,_⟩:=Kd.own_slice HO.o;have HM9:=Zz (Kd.own_sl (ok':=TT) HO.o (fun _ _=>trivial) (fun _ _=>trivial));rw [<- HPut.o] at HM9;rw [<- HPut.o];clear HO;go_wp2;go_ret;exact ⟨_,_,rfl,HM9.o,HB6.o⟩
  ·
   have hd:decide (i < l.length) = false:=dF hlt;have HPut:Hid (putT l t = l.take i ++ [t] ++ l.drop i):=Zz (putT_ins l t i hiL HI.o.1 (fun h=>absurd h hlt));have HIW:=Zz HI.o.2;clear HI hlt;obtain ⟨⟨sk',sx',se'⟩,⟨pk',px',pe'⟩,⟨ok',ox',oe'⟩⟩:=t;go_upto_region 2 with fail
   go_quiet (fail);go_wp2;go_upto_region 4 with fail
   go_quiet (fail);go_upto_region 6 with fail
   generalize hwy:World.drewN _ _ = w2 at *;have HB3:Hid (Below w.heap.size w w2):=Zz (by subst hwy;exact bel_drewN (bel_drewN HIW.o.1 _) _);have hcz:C9 w2 w.heap.size 0 ⟨⟨sk',sx',se'⟩,⟨pk',px',pe'⟩,⟨ok',ox',oe'⟩⟩:=by subst hwy;exact HIW.o.2.moved rfl
   clear hwy HIW;obtain ⟨A1,-,-,htake,hrow1⟩:=Kd.cut_run (P:=Tryz.prog) triK 22 36 underlying22 cellsT zeroV 120 info_tri (A) l.length c 0 i (Nat.zero_le _) hiL hlc ⟨hl47,hcm⟩ hA;obtain ⟨A2,-,hdrop,-,hrow2⟩:=Kd.cut_run (P:=Tryz.prog) triK 22 36 underlying22 cellsT zeroV 120 info_tri (A) l.length c i l.length hiL (lR _) hlc ⟨hl47,hcm⟩ hA;have HQ1:=Zz (hrow1 w TT l rfl HROW.o);have HQ2:=Zz (hrow2 w TT l rfl HROW.o);rw [List.drop_zero] at HQ1;rw [List.take_length] at HQ2;obtain ⟨pre,hpre⟩:∃ pre,pre = l.take i:=⟨_,rfl⟩;obtain ⟨suf,hsuf⟩:∃ suf,suf = l.drop i:=⟨_,rfl⟩;have hpl:pre.length = i:=by rw [hpre,Zi];omega
   have hsl:suf.length = l.length - i:=by rw [hsuf,Zj]
   have hs1:∀ (kh:IntKind) (w:World),(Instr.slice 22 (.slice (A) l.length c) none (some (.int kh (i:Int))) none).run Tryz.prog w = .ok (.slice A1 pre.length c) w:=fun kh w=>by rw [hpl];exact htake kh w rfl
   obtain ⟨c2,hc2⟩:∃ c2,c2 = c - i:=⟨_,rfl⟩;have hs2:∀ (kl:IntKind) (w:World),(Instr.slice 22 (.slice (A) l.length c) (some (.int kl (i:Int))) none none).run Tryz.prog w = .ok (.slice A2 suf.length c2) w:=fun kl w=>by rw [hsl,hc2];exact hdrop kl w rfl
   rw [Nat.sub_zero,Nat.sub_zero,<- hpre,<- hpl] at HQ1;rw [<- hsuf,<- hsl,<- hc2] at HQ2;rw [<- hpre,<- hsuf] at HPut;have hbp:pre.length <= 1000000:=by omega
   have hbs2:suf.length <= 1000000:=by omega
   clear htake hdrop hrow1 hrow2 hpre hsuf hc2;clear hpl hsl;have HZ:=Zz hcz;have hB:=HB3.o;have hY:=bR w2.heap.size w2;obtain ⟨n0,n1,n2,n3,n4,n5,n6,n7,n8⟩:=hcz;dsimp only at n0 n1 n2 n3 n4 n5 n6 n7 n8;go_cut [4] (fun v4 wx=>Hid (triK.own 36 wx w2.heap.size TT v4 (pre ++ [⟨⟨sk',sx',se'⟩,⟨pk',px',pe'⟩,⟨ok',ox',oe'⟩⟩] ++ suf))/\Hid (Below w.heap.size w wx))
   case first =>
    go_region_held3 (fun w'=>w'.cell? ⟨w.heap.size,0,none⟩ = some (Value.int .i64 sk')/\w'.cell? ⟨w.heap.size,1,none⟩ = some (Value.string (mkS sx'))/\w'.cell? ⟨w.heap.size,2,none⟩ = some (Value.string (mkS se'))/\w'.cell? ⟨w.heap.size,3,none⟩ = some (Value.int .i64 pk')/\w'.cell? ⟨w.heap.size,4,none⟩ = some (Value.string (mkS px'))/\w'.cell? ⟨w.heap.size,5,none⟩ = some (Value.string (mkS pe'))/\w'.cell? ⟨w.heap.size,6,none⟩ = some (Value.int .i64 ok')/\w'.cell? ⟨w.heap.size,7,none⟩ = some (Value.string (mkS ox'))/\w'.cell? ⟨w.heap.size,8,none⟩ = some (Value.string (mkS oe')))
     (exact nine (HZ.o.below (by (repeat (first | assumption | exact bR _ _ | refine bel_alloc ?_ _ | refine bel_drew ?_)))))
     (first
      | (refine Kd.own_app_step triK (w0:=w2) w2.heap.size (by rfl) (.tmp 35) (.tmp 38) 22 36 zeroV 120 (by rfl) underlying22 info_tri rfl (by decide) (.slice (some ⟨w2.heap.size,0,none⟩) 0 0) [] pre A1 c TT (by rfl) (by rfl) ?ho (.inr ⟨?hr,any_tri⟩) ?hb ?hs ?hl ?_;go_loud (case hl=>simp;omega);go_loud (case ho=>first | exact own0_1 _ | exact Kd.own_drew (own0_1 _) | exact Kd.own_drew (Kd.own_alloc (own0_1 _) _) | exact Kd.own_drew (own0_2 _ _));go_loud (case hr=>exact Kd.M_below HQ1.o (by (repeat (first | assumption | exact bR _ _ | refine bel_alloc ?_ _ | refine bel_drew ?_))));go_loud (case hb=>repeat (first | assumption | exact bR _ _ | refine bel_alloc ?_ _ | refine bel_drew ?_));go_loud (case hs=>simp;try omega);intro v1 w1 ho1 hb1 hg1 hv1;go_loud (rw [Zf] at ho1);have HO1:=Zz ho1;clear ho1 hv1)
      | (refine Kd.own_app_step triK (w0:=w2) w2.heap.size (by rfl) (.tmp 35) (.tmp 38) 22 36 zeroV 120 (by rfl) underlying22 info_tri rfl (by decide) (.slice (some ⟨w2.heap.size + 1,0,none⟩) 0 0) [] pre A1 c TT (by rfl) (by rfl) ?ho (.inr ⟨?hr,any_tri⟩) ?hb ?hs ?hl ?_;go_loud (case hl=>simp;omega);go_loud (case ho=>first | exact own0_1 _ | exact Kd.own_drew (own0_1 _) | exact Kd.own_drew (Kd.own_alloc (own0_1 _) _) | exact Kd.own_drew (own0_2 _ _));go_loud (case hr=>exact Kd.M_below HQ1.o (by (repeat (first | assumption | exact bR _ _ | refine bel_alloc ?_ _ | refine bel_drew ?_))));go_loud (case hb=>repeat (first | assumption | exact bR _ _ | refine bel_alloc ?_ _ | refine bel_drew ?_));go_loud (case hs=>simp;try omega);intro v1 w1 ho1 hb1 hg1 hv1;go_loud (rw [Zf] at ho1);have HO1:=Zz ho1;clear ho1 hv1)
      | (refine Kd.own_app_step triK (w0:=w2) w2.heap.size (by rfl) (.tmp 39) (.tmp 41) 22 36 zeroV 120 (by rfl) underlying22 info_tri rfl (by decide) v1 pre [⟨⟨sk',sx',se'⟩,⟨pk',px',pe'⟩,⟨ok',ox',oe'⟩⟩] _ 1 TT (by rfl) (by rfl) ?ho (.inr ⟨?hr,any_tri⟩) ?hb ?hs ?hl ?_;go_loud (case hl=>simp;omega);go_loud (case ho=>repeat (first | exact HO1.o | refine Kd.own_drew ?_ | refine Kd.own_alloc ?_ _));go_loud (case hr=>first | exact triK.sl.mono (fun _ _ _=>trivial) (Known.one_row _ ⟨⟨sk',sx',se'⟩,⟨pk',px',pe'⟩,⟨ok',ox',oe'⟩⟩ hft) | (refine one_grown hft ?_ hg1 ?_;(first | exact C9_new1 _ _ ⟨⟨sk',sx',se'⟩,⟨pk',px',pe'⟩,⟨ok',ox',oe'⟩⟩ | exact C9_new2 _ ⟨⟨sk',sx',se'⟩,⟨pk',px',pe'⟩,⟨ok',ox',oe'⟩⟩ _);(simp [Value.ownBlock])));go_loud (case hb=>repeat (first | assumption | exact bR _ _ | refine bel_alloc ?_ _ | refine bel_drew ?_));go_loud (case hs=>have:=hb1.size;first | omega | (simp;omega));intro v2 w4 ho2 hb2 hg2 hv2;have HO2:=Zz ho2;clear ho2 hg2 hv2)
      | (refine Kd.own_app_step triK (w0:=w2) w2.heap.size (by rfl) (.tmp 42) (.tmp 45) 22 36 zeroV 120 (by rfl) underlying22 info_tri rfl (by decide) v2 (pre ++ [⟨⟨sk',sx',se'⟩,⟨pk',px',pe'⟩,⟨ok',ox',oe'⟩⟩]) suf A2 c2 TT (by rfl) (by rfl) ?ho (.inr ⟨?hr,any_tri⟩) ?hb ?hs ?hl ?_;go_loud (case hl=>simp;omega);go_loud (case ho=>repeat (first | exact HO2.o | refine Kd.own_drew ?_ | refine Kd.own_alloc ?_ _));go_loud (case hr=>exact Kd.M_below HQ2.o (bel_step hB (by (repeat (first | assumption | exact bR _ _ | refine bel_alloc ?_ _ | refine bel_drew ?_)))));go_loud (case hb=>repeat (first | assumption | exact bR _ _ | refine bel_alloc ?_ _ | refine bel_drew ?_));go_loud (case hs=>have:=hb2.size;first | omega | (simp;omega));intro v3 w5 ho3 hb3 hg3 hv3;have HO3:=Zz ho3;clear ho3 hg3 hv3)
      | fail)
    all_goals (go_wp2_with fail;go_meet;exact ⟨HO3,Zz (bel_step hB hb3)⟩)
   case rest =>
    obtain ⟨HO,HB6⟩:=hcut;obtain ⟨A9,c9,rfl,_,_⟩:=Kd.own_slice HO.o;have HM9:=Zz (Kd.own_sl (ok':=TT) HO.o (fun _ _=>trivial) (fun _ _=>trivial));rw [<- HPut.o] at HM9;rw [<- HPut.o];clear HO;go_wp2;go_ret;exact ⟨_,_,rfl,HM9.o,HB6.o⟩
end SortW
namespace SortW
open Go.RowKit Go.Lib B Rd Utf TermPure LinesPure Tx Env Tri SortP Print Cmp Long
theorem putT_sub:∀ (l:List Triple) (t x:Triple),x ∈ putT l t -> x = t \/ x ∈ l
 | [],t,x,h=>by simpa [putT] using h
 | y :: l,t,x,h=>by
  rw [putT] at h
  split at h
  ·
   rcases List.mem_cons.1 h with h | h
   ·
    exact .inr (by simp [h])
   ·
    rcases putT_sub l t x h with h | h
    ·
     exact .inl h
    ·
     exact .inr (by simp [h])
  ·
   split at h
   ·
    exact .inr h
   ·
    rcases List.mem_cons.1 h with h | h
    ·
     exact .inl h
    ·
     exact .inr h
theorem putT_len:∀ (l:List Triple) (t:Triple),(putT l t).length <= l.length + 1
 | [],t=>by simp [putT]
 | y :: l,t=>by
  have:=putT_len l t
  rw [putT]
  split
  ·
   simp;omega
  ·
   split <;> simp
def accT (l:List Triple) (k:Nat):List Triple:=(l.take k).foldl putT []
theorem accT_step (l:List Triple) (k:Nat) (h:k < l.length):accT l (k + 1) = putT (accT l k) l[k]:=by
 unfold accT;rw [Zt h,List.foldl_append]
 try rfl
theorem accT_sub (l:List Triple):∀ k,k <= l.length -> ∀ x ∈ accT l k,x ∈ l
 | 0,_,x,h=>by simp [accT] at h
 | k + 1,hk,x,h=>by
  rw [accT_step l k (by omega)] at h
  rcases putT_sub _ _ _ h with h | h
  ·
   rw [h];exact Zm _
  ·
   exact accT_sub l k (by omega) x h
theorem accT_len (l:List Triple):∀ k,k <= l.length -> (accT l k).length <= k
 | 0,_=>by simp [accT]
 | k + 1,hk=>by
  rw [accT_step l k (by omega)]
  have:=putT_len (accT l k) (l[k]'(by omega))
  have:=accT_len l k (by omega)
  omega
theorem accT_all (l:List Triple):accT l l.length = sortT l:=by
 unfold accT sortT;rw [List.take_length]
theorem refsort_calls (l:List Triple) (A:Option Addr) (c:Nat) (w:World) (HL:triK.sl.M w (fun k=>k < w.heap.size) l [.slice A l.length c]) (hs:∀ x ∈ l,SmallT x) (hb:l.length <= 1000000) :
  Calls Tryz.prog 21 #[.slice A l.length c] w fun e w'=>∃ A' c',e = .returned (.slice A' (sortT l).length c')/\triK.sl.M w' (fun k=>k < w'.heap.size) (sortT l) [.slice A' (sortT l).length c']/\Below w.heap.size w w':=by
 have HR:=Zz (row_cells HL);have HF:=Zz (row_fits HL);have HS:=Zz hs;have h47:=sl_len HL;clear HL hs;go_enter func21,ntmps21;go_wp2;go_loopw [3,4] (fun v3 vi wr=>∃ (k:Nat) (acc:List Triple) (A3:Option Addr) (c3:Nat),vi = .int .i64 k/\v3 = .slice A3 acc.length c3/\k <= l.length/\Hid (acc = accT l k/\triK.sl.M wr TT acc [.slice A3 acc.length c3]/\Below w.heap.size w wr)) (fun _ vi _=>l.length - (intOf vi).toNat)
 case atStart=>exact ⟨0,[],none,0,rfl,rfl,by omega,Zz ⟨rfl,⟨none,0,rfl,lR _,⟨Nat.zero_le _,Nat.zero_le _⟩,fun _=>rfl,Kd.row_nil _ _ _ _⟩,bR _ _⟩⟩
 case round =>
  obtain ⟨k,acc,A3,c3,rfl,rfl,hkL,HI⟩:=hrel;by_cases hlt:k < l.length
  ·
   have hd:decide (k < l.length) = true:=dT hlt;have ik:(k:Int) < (l.length:Int):=by omega
   obtain ⟨b,off,rfl,hbs,hcells⟩:=HR.o k hlt;have hcx:=(hcells k hlt).below HI.o.2.2;obtain ⟨x,hx⟩:∃ x,x = l[k]:=⟨_,rfl⟩;rw [<- hx] at hcx;have HC:=Zz (put_calls acc x A3 c3 wr (triK.sl.mono (fun k _ hk=>hk) HI.o.2.1) (fun y hy=>HS.o y (accT_sub l k hkL y (by rw [<- HI.o.1];exact hy))) (by rw [hx];exact HS.o _ (Zm hlt)) (by rw [hx];exact HF.o _ (Zm hlt)) (by rw [HI.o.1];exact Zh (accT_len l k hkL) (by omega)));have HAcc:Hid (putT acc x = accT l (k + 1)):=Zz (by rw [accT_step l k hlt,HI.o.1,hx]);have HB:=Zz HI.o.2.2;clear hcells hx HI;obtain ⟨⟨sk,sx,se⟩,⟨pk,px,pe⟩,⟨ok,ox,oe⟩⟩:=x;obtain ⟨x0,x1,x2,x3,x4,x5,x6,x7,x8⟩:=hcx;dsimp only at x0 x1 x2 x3 x4 x5 x6 x7 x8;unfold Ref5.tripleV at HC;dsimp only at HC;go_wp2_with fail;refine HC.o.mono ?_;rintro e w2 ⟨A4,c4,rfl,hM,hb2⟩;have HN:=Zz (show _/\_/\_ from ⟨HAcc.o,hM,bel_step HB.o hb2⟩);clear HC hM hb2 HAcc HB;go_wp2;go_roundw
   case rel=>exact ⟨k + 1,_,_,_,by go_num,rfl,by omega,HN⟩
   case measure=>simp [intOf];omega
  ·
   have hd:decide (k < l.length) = false:=dF hlt;obtain rfl:k = l.length:=by omega
   have HN:Hid (acc = sortT l):=Zz (by rw [HI.o.1,accT_all]);have HM:Hid (triK.sl.M wr (fun k=>k < wr.heap.size) acc [.slice A3 acc.length c3]/\Below w.heap.size w wr):=Zz ⟨triK.sl.mono (fun k _ hk=>hk) HI.o.2.1,HI.o.2.2⟩;clear HI;go_wp2;go_ret;rw [<- HN.o];exact ⟨_,_,rfl,HM.o.1,HM.o.2⟩
end SortW
namespace SortW
open Go.RowKit Go.Lib B Rd Utf TermPure LinesPure Tx Env Tri SortP Print Cmp Long
theorem run_ne_tri (x y:Triple) (w:World):(binOp .neq 36 (Ref5.tripleV x) (Ref5.tripleV y)).run Tryz.prog w = .ok (.bool (!decide (x = y))) w:=by
 have h:=TriEq.run_eq_tri x y w;unfold Ref5.tripleV at *;rw [run_eql_struct] at h;rw [run_neq_struct];generalize (Op.equalIn 10000 36 _ _).run Tryz.prog w = r at *;cases r with
 | ok b w' =>
  simp [Result.andThen] at h |-;obtain ⟨h1,h2⟩:=h;simp [h1,h2]
 | _=>simp [Result.andThen] at h
theorem same_calls (l m:List Triple) (A B:Option Addr) (c d:Nat) (w:World) (HL:triK.sl.M w (fun k=>k < w.heap.size) l [.slice A l.length c]) (HM:triK.sl.M w (fun k=>k < w.heap.size) m [.slice B m.length d]) :
  Calls Tryz.prog 30 #[.slice A l.length c,.slice B m.length d] w fun e w'=>e = .returned (.bool (decide (l = m)))/\Below w.heap.size w w':=by
 have HR:=Zz (row_cells HL);have HQ:=Zz (row_cells HM);have h47:=sl_len HL;have h48:=sl_len HM;clear HL HM;by_cases hlen:l.length = m.length
 ·
  have hne:(l.length != m.length) = false:=by simp [hlen]
  have hne2:((l.length:Int) != (m.length:Int)) = false:=by simp [hlen]
  have HLen:=Zz hlen;clear hlen;go_enter func30,ntmps30;go_wp2;go_loopw [5] (fun vi wr=>∃ k:Nat,vi = .int .i64 k/\k <= l.length/\Hid (l.take k = m.take k/\Below w.heap.size w wr)) (fun vi _=>l.length - (intOf vi).toNat)
  case atStart=>exact ⟨0,rfl,by omega,Zz ⟨rfl,bR _ _⟩⟩
  case round =>
   obtain ⟨k,rfl,hkL,HI⟩:=hrel;by_cases hlt:k < l.length
   ·
    have hd:decide (k < l.length) = true:=dT hlt;have ik:(k:Int) < (l.length:Int):=by omega
    have hkm:k < m.length:=by rw [<- HLen.o];exact hlt
    have ikm:(k:Int) < (m.length:Int):=by omega
    obtain ⟨b,off,rfl,hbs,hcells⟩:=HR.o k hlt;obtain ⟨b2,off2,rfl,hbs2,hcells2⟩:=HQ.o k hkm;have hcx:=(hcells k hlt).below HI.o.2;have hcy:=(hcells2 k hkm).below HI.o.2;obtain ⟨x,hx⟩:∃ x,x = l[k]:=⟨_,rfl⟩;obtain ⟨y,hy⟩:∃ y,y = m[k]:=⟨_,rfl⟩;rw [<- hx] at hcx;rw [<- hy] at hcy;have HNe:Hid (∀ w,(binOp .neq 36 (Ref5.tripleV x) (Ref5.tripleV y)).run Tryz.prog w = .ok (.bool (!decide (x = y))) w):=Zz (fun w=>run_ne_tri x y w);have HOk:Hid (x = y -> l.take (k + 1) = m.take (k + 1)):=Zz (fun h=>by
     rw [Zt hlt,Zt hkm,HI.o.1,<- hx,<- hy,h])
    have HNo:Hid (x ≠ y -> decide (l = m) = false):=Zz (fun h=>dF (fun h2=>h (by rw [hx,hy];subst h2;rfl)));have HB:=Zz HI.o.2;clear hcells hcells2 hx hy HI;by_cases hxy:x = y
    ·
     rw [dT hxy] at HNe;have HN:=Zz (HOk.o hxy);clear hxy HOk HNo;obtain ⟨⟨sk,sx,se⟩,⟨pk,px,pe⟩,⟨ok,ox,oe⟩⟩:=x;obtain ⟨⟨sk',sx',se'⟩,⟨pk',px',pe'⟩,⟨ok',ox',oe'⟩⟩:=y;obtain ⟨x0,x1,x2,x3,x4,x5,x6,x7,x8⟩:=hcx;obtain ⟨y0,y1,y2,y3,y4,y5,y6,y7,y8⟩:=hcy;dsimp only at x0 x1 x2 x3 x4 x5 x6 x7 x8 y0 y1 y2 y3 y4 y5 y6 y7 y8;unfold Ref5.tripleV at HNe;dsimp only at HNe;have hnn:=HNe.o;go_upto_region 6 with fail
     go_quiet (fail);have HB2:=Zz (bel_drewN HB.o 1);go_wp2;go_roundw
     case rel=>exact ⟨k + 1,by go_num,by omega,Zz ⟨HN.o,bel_drewN HB.o _⟩⟩
     case measure=>simp [intOf];omega
    ·
     rw [dF hxy] at HNe;have HN:=Zz (HNo.o hxy);clear hxy HOk HNo;obtain ⟨⟨sk,sx,se⟩,⟨pk,px,pe⟩,⟨ok,ox,oe⟩⟩:=x;obtain ⟨⟨sk',sx',se'⟩,⟨pk',px',pe'⟩,⟨ok',ox',oe'⟩⟩:=y;obtain ⟨x0,x1,x2,x3,x4,x5,x6,x7,x8⟩:=hcx;obtain ⟨y0,y1,y2,y3,y4,y5,y6,y7,y8⟩:=hcy;dsimp only at x0 x1 x2 x3 x4 x5 x6 x7 x8 y0 y1 y2 y3 y4 y5 y6 y7 y8;unfold Ref5.tripleV at HNe;dsimp only at HNe;have hnn:=HNe.o;go_upto_region 6 with fail
     go_quiet (fail);go_wp2;go_ret;exact ⟨by rw [HN.o];rfl,bel_drewN HB.o _⟩
   ·
    have hd:decide (k < l.length) = false:=dF hlt;have HN:Hid (decide (l = m) = true):=Zz (dT (by
     have:=HI.o.1
     rwa [List.take_of_length_le (by omega),List.take_of_length_le (by rw [<- HLen.o];omega)] at this))
    have HB:=Zz HI.o.2;clear HI;go_wp2;go_ret;exact ⟨by rw [HN.o];rfl,HB.o⟩
 ·
  have hne:(l.length != m.length) = true:=by simp [hlen]
  have hne2:((l.length:Int) != (m.length:Int)) = true:=by simp;omega
  have HN:Hid (decide (l = m) = false):=Zz (dF (fun h=>hlen (by rw [h])));clear hlen;go_enter func30,ntmps30;go_wp2;go_ret;exact ⟨by rw [HN.o];rfl,bR _ _⟩
end SortW
end Go.Proofs.YtnplommdgfgboaaGreatDoor
