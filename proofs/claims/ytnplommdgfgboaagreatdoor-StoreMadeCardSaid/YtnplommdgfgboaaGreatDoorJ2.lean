/-
  Texts of the claim, one behind the other: Prg, Prg2, Prg3, Prg4, Prg5, LineEq, Round, SortPure, OrdG, Ref4, Ref5, Ref5b, Ref5c, Ref5d.
-/
import Derived.Test.YtnplommdgfgboaaGreatDoorJ1
import Derived.RegionTactic
import Derived.Deep.RegionHeld3
import Derived.StillTailTactics
import Derived.Laws.RangeAny
import Derived.Laws.RangeString
import Derived.Laws.Runes
import Derived.IntWalk
import Derived.Test.YtnplommdgfgboaaGreatDoorProg
import Derived.WalkKit
import Derived.Lib.Hide
import Derived.Deep.LoopGhost
import Derived.Deep.QuietTactic
import Derived.BigQuiet
import Derived.Deep.DeepCutAuto
set_option linter.unusedVariables false
set_option linter.unusedSimpArgs false
set_option maxHeartbeats 25600000
set_option maxRecDepth 100000
open Go.Proofs.Tryz
namespace Go.Proofs.YtnplommdgfgboaaGreatDoor
namespace Prg
open Go.RowKit Go.Lib B Rd Utf TermPure LinesPure Tx Env Bld
theorem runeLen_calls (r:Int) (w:World):Calls Tryz.prog 250 #[.int .i32 r] w fun e w'=>e = .returned (.int .i64 (Lib.runeLen r))/\w = w':=
 (Tryz.utf8_RuneLen r w).mono fun e w' ⟨h1,h2⟩=>⟨h1,h2.symm⟩
theorem validRune_calls (r:Int) (w:World):Calls Tryz.prog 262 #[.int .i32 r] w fun e w'=>e = .returned (.bool (Lib.validRune r))/\w = w':=
 (Tryz.utf8_ValidRune r w).mono fun e w' ⟨h1,h2⟩=>⟨h1,h2.symm⟩
theorem next_calls (rb:Nat) (l:List UInt8) (hne:l ≠ []) (w:World) (he:Env w) (h:At w rb l false) :
  Calls Tryz.prog 160 #[.pointer (some ⟨rb,0,none⟩)] w fun e w'=>e = .returned (.int .i32 ((decodeL l).1:Nat))/\Below w.heap.size w w':=by
 obtain ⟨c0,c1,f0,f1,len⟩:=h;have HE:=Zz he;have z:=mkS_toList l;have hE:l.isEmpty = false:=by cases l with
  | nil=>exact absurd rfl hne
  | cons b t=>rfl
 have hE':¬ l = []:=hne;clear he;go_enter func160,ntmps160;go_wp2_with fail;refine (decode_calls l hne _ HE.o).mono ?_;rintro e w1 ⟨rfl,hb1⟩;have HB1:=Zz hb1;clear hb1;go_wp2;go_ret;exact ⟨rfl,HB1.o⟩
theorem next_end_calls (rb:Nat) (l:List UInt8) (bad:Bool) (hb:bad = true \/ l = []) (w:World) (h:At w rb l bad) :
  Calls Tryz.prog 160 #[.pointer (some ⟨rb,0,none⟩)] w fun e w'=>e = .returned (.int .i32 (-1))/\w = w':=by
 obtain ⟨c0,c1,f0,f1,len⟩:=h;have z:=mkS_toList l;cases bad with
 | true =>
  clear hb;go_enter func160,ntmps160;go_wp2;go_ret;exact ⟨rfl,rfl⟩
 | false =>
  obtain rfl:l = []:=by rcases hb with h | h;cases h;exact h
  clear hb;go_enter func160,ntmps160;go_wp2;go_ret;exact ⟨rfl,rfl⟩
theorem rune_len (l:List UInt8) (hne:l ≠ []) (hv:validD l = true):Lib.runeLen ((decodeL l).1:Nat) = ((decodeL l).2:Nat)/\(decodeL l).1 <= 1114111/\(decodeL l).2 <= l.length/\validD (l.drop (decodeL l).2) = true:=by
 rcases Utf.step l hne hv with ⟨b,t,rfl,hb,hd,ht⟩ | ⟨ch,t,c,hc⟩
 ·
  rw [hd];refine ⟨?_,by simp;omega,by simp,by simpa using ht⟩
  unfold Lib.runeLen;dsimp only
  repeat' split
  all_goals omega
 ·
  rw [hc.dec];refine ⟨hc.rlen,hc.le,?_,?_⟩
  ·
   rw [hc.eq];simp
  ·
   have:=hc.rest;rw [hc.eq,List.drop_left];exact this
theorem take_end_calls (rb:Nat) (l:List UInt8) (bad:Bool) (hb:bad = true \/ l = []) (w:World) (h:At w rb l bad) :
  Calls Tryz.prog 234 #[.pointer (some ⟨rb,0,none⟩)] w fun e w'=>e = .returned (.int .i32 (-1))/\Step w w' rb l true:=by
 have HA:=Zz h;have HS:=Zz (Step.refl h);obtain ⟨c0,c1,f0,f1,len⟩:=h;go_enter func234,ntmps234;go_wp2_with fail;refine (next_end_calls rb l bad hb _ HA.o).mono ?_;rintro e w1 ⟨rfl,rfl⟩;go_wp2;go_ret;exact ⟨rfl,HS.o.set1 true⟩
theorem take_calls (rb:Nat) (l:List UInt8) (hne:l ≠ []) (hv:validD l = true) (w:World) (he:Env w) (h:At w rb l false) :
  Calls Tryz.prog 234 #[.pointer (some ⟨rb,0,none⟩)] w fun e w'=>e = .returned (.int .i32 ((decodeL l).1:Nat))/\Step w w' rb (l.drop (decodeL l).2) false:=by
 have HA:=Zz h;have HE:=Zz he;have HS:=Zz (Step.refl h);obtain ⟨r1,r2,r3,r4⟩:=rune_len l hne hv;have hlen:=h.len;have HX:Hid ((mkS l).extract (decodeL l).2 l.length = mkS (l.drop (decodeL l).2)):=Zz (by rw [mkS_extract,List.take_of_length_le (by simp)]);have HR:=Zz r1;have HD:Hid ((l.drop (decodeL l).2).length <= l.length):=Zz (by simp);have HNx:=Zz (next_calls rb l hne);clear hv he h r1 r4 hne;generalize (decodeL l).1 = c at *;generalize (decodeL l).2 = k at *;have z:=mkS_size l;go_enter func234,ntmps234;go_wp2_with fail;refine (HNx.o _ HE.o HA.o).mono ?_;rintro e w1 ⟨rfl,hb1⟩;have HS1:=Zz (HS.o.below hb1);have hc1:((c:Int) == -1) = false:=by rw [Zb];omega
 obtain ⟨c0,c1,f0,f1,_⟩:=HS1.o.at';clear hb1;go_wp2_with fail;go_region_with (go_at_call 250;refine (runeLen_calls _ _).mono ?_;rintro e w2 ⟨rfl,rfl⟩;rw [HR.o])
 all_goals go_wp2
 all_goals go_ret
 all_goals exact ⟨rfl,by rw [HX.o];exact (HS1.o.set0 (by have:=HD.o;omega)).drew⟩
theorem is_calls (rb:Nat) (l p:List UInt8) (w:World) (h:At w rb l false) :
  Calls Tryz.prog 162 #[.pointer (some ⟨rb,0,none⟩),.string (mkS p)] w fun e w'=>e = .returned (.bool (p.isPrefixOf l))/\Step w w' rb (if p.isPrefixOf l then l.drop p.length else l) false:=by
 have HS:=Zz (Step.refl h);have hlen:=h.len;have HC:=Zz (cutPrefix_calls l p);have HQ:Hid ((if p.isPrefixOf l = true then l.drop p.length else l).length <= l.length):=Zz (by split <;> simp);have HN:Hid (p.isPrefixOf l = false -> (if p.isPrefixOf l = true then l.drop p.length else l) = l):=Zz (fun h=>by rw [h];rfl);obtain ⟨c0,c1,f0,f1,_⟩:=h;generalize (if p.isPrefixOf l = true then l.drop p.length else l) = q at *;generalize p.isPrefixOf l = b at *;go_enter func162,ntmps162;go_wp2_with fail;refine (HC.o _).mono ?_;rintro e w1 ⟨rfl,rfl⟩;clear HC;cases b with
 | true =>
  go_wp2;go_ret;exact ⟨rfl,HS.o.set0 (by have:=HQ.o;omega)⟩
 | false =>
  go_wp2;go_ret;exact ⟨rfl,by have hq:=HN.o (by first | rfl | trivial);subst hq;exact HS.o⟩
theorem is_bad_calls (rb:Nat) (l p:List UInt8) (w:World) (h:At w rb l true) :
  Calls Tryz.prog 162 #[.pointer (some ⟨rb,0,none⟩),.string (mkS p)] w fun e w'=>e = .returned (.bool false)/\w = w':=by
 obtain ⟨c0,c1,f0,f1,_⟩:=h;go_enter func162,ntmps162;go_wp2_with fail;refine (cutPrefix_calls l p _).mono ?_;rintro e w1 ⟨rfl,rfl⟩;generalize (if p.isPrefixOf l = true then l.drop p.length else l) = q;generalize p.isPrefixOf l = b;cases b
 all_goals go_wp2
 all_goals go_ret
 all_goals exact ⟨rfl,rfl⟩
theorem must_calls (rb:Nat) (l p:List UInt8) (w:World) (h:At w rb l false) :
  Calls Tryz.prog 132 #[.pointer (some ⟨rb,0,none⟩),.string (mkS p)] w fun e w'=>e = .returned (.tuple #[])/\Step w w' rb (if p.isPrefixOf l then l.drop p.length else l) (!p.isPrefixOf l):=by
 have HC:=Zz (is_calls rb l p w h);clear h;generalize (if p.isPrefixOf l = true then l.drop p.length else l) = q at *;generalize p.isPrefixOf l = b at *;go_enter func132,ntmps132;go_wp2_with fail;refine HC.o.mono ?_;rintro e w1 ⟨rfl,hs1⟩;have HS:=Zz hs1;obtain ⟨c0,c1,f0,f1,_⟩:=hs1.at';clear hs1 HC;cases b
 ·
  go_wp2;go_end0;exact ⟨rfl,HS.o.set1 true⟩
 ·
  go_wp2;go_end0;exact ⟨rfl,HS.o⟩
theorem must_bad_calls (rb:Nat) (l p:List UInt8) (w:World) (h:At w rb l true) :
  Calls Tryz.prog 132 #[.pointer (some ⟨rb,0,none⟩),.string (mkS p)] w fun e w'=>e = .returned (.tuple #[])/\Step w w' rb l true:=by
 have HA:=Zz h;have HS:=Zz (Step.refl h);obtain ⟨c0,c1,f0,f1,_⟩:=h;go_enter func132,ntmps132;go_wp2_with fail;refine (is_bad_calls rb l p _ HA.o).mono ?_;rintro e w1 ⟨rfl,rfl⟩;go_wp2;go_end0;exact ⟨rfl,HS.o.set1 true⟩
theorem blanks_eq (l:List UInt8):l.dropWhile (([32,9]:List UInt8).contains ·) = blanks l:=by
 unfold blanks;congr 1;funext b;unfold LinesPure.blank;show (b == 32 || (b == 9 || false)) = _;rw [Bool.or_false]
theorem pblanks_calls (rb:Nat) (l:List UInt8) (w:World) (h:At w rb l false) :
  Calls Tryz.prog 129 #[.pointer (some ⟨rb,0,none⟩)] w fun e w'=>e = .returned (.tuple #[])/\Step w w' rb (blanks l) false:=by
 have HS:=Zz (Step.refl h);have hlen:=h.len;have hc:=fun w=>trimLeft_calls l [32,9] (by decide) (by decide) w
 rw [blanks_eq] at hc;have HC:=Zz hc;have hql:(blanks l).length <= l.length:=List.Sublist.length_le (List.dropWhile_sublist _);obtain ⟨c0,c1,f0,f1,_⟩:=h;clear hc;generalize blanks l = q at *;go_enter func129,ntmps129;go_wp2_with fail;refine (HC.o _).mono ?_;rintro e w1 ⟨rfl,hb1⟩;have HS1:=Zz (HS.o.below hb1);obtain ⟨c0,c1,f0,f1,_⟩:=HS1.o.at';clear hb1 HC;go_wp2;go_end0;exact ⟨rfl,HS1.o.set0 (by omega)⟩
theorem pblanks_bad_calls (rb:Nat) (l:List UInt8) (w:World) (h:At w rb l true) :
  Calls Tryz.prog 129 #[.pointer (some ⟨rb,0,none⟩)] w fun e w'=>e = .returned (.tuple #[])/\w = w':=by
 obtain ⟨c0,c1,f0,f1,_⟩:=h;go_enter func129,ntmps129;go_wp2;go_end0;exact ⟨rfl,rfl⟩
theorem over_calls (rb:Nat) (l:List UInt8) (bad:Bool) (w:World) (h:At w rb l bad) :
  Calls Tryz.prog 130 #[.pointer (some ⟨rb,0,none⟩)] w fun e w'=>e = .returned (.bool (!bad && over l))/\w = w':=by
 obtain ⟨c0,c1,f0,f1,_⟩:=h;cases bad with
 | true =>
  go_enter func130,ntmps130;go_wp2;go_ret;exact ⟨rfl,rfl⟩
 | false =>
  cases l with
  | nil =>
   have z:=mkS_toList [];go_enter func130,ntmps130;go_wp2;go_ret;exact ⟨rfl,rfl⟩
  | cons b t =>
   have z1:(mkS (b :: t)).toList = b :: t:=mkS_toList _;have z:=mkS_size (b :: t);have hk:0 < (mkS (b :: t)).size:=by rw [z];simp
   have hg:(mkS (b :: t))[0]'hk = b:=rfl;have hE:(b :: t).isEmpty = false:=rfl;have hE':¬ (b :: t) = []:=by simp
   have zl:0 < (b :: t).length:=by simp
   have HO:Hid (over (b :: t) = ((b.toNat:Int) == 35)):=Zz (by
    rw [over];simp [List.isPrefixOf];rw [Bool.eq_iff_iff,beq_iff_eq,beq_iff_eq];constructor
    ·
     rintro rfl;rfl
    ·
     intro h;exact UInt8.toNat_inj.1 (by show 35 = b.toNat;omega))
   generalize (b :: t:List UInt8) = L at *;obtain ⟨q,hq⟩:∃ q:Bool,((b.toNat:Int) == 35) = q:=⟨_,rfl⟩;rw [hq] at HO;go_enter func130,ntmps130;go_wp2;go_ret;exact ⟨ret_bool (by rw [HO.o];rfl),rfl⟩
def digI (c:Int):Int:=if 48 <= c/\c <= 57 then c - 48 else if 97 <= c/\c <= 102 then c - 87 else if 65 <= c/\c <= 70 then c - 55 else -1
theorem digit_calls (c:Int) (h0:-1 <= c) (h1:c <= 1114111) (w:World) :
  Calls Tryz.prog 263 #[.int .i32 c] w fun e w'=>e = .returned (.int .i32 (digI c))/\w = w':=by
 have HD:Hid (digI c = if 48 <= c/\c <= 57 then c - 48 else if 97 <= c/\c <= 102 then c - 87 else if 65 <= c/\c <= 70 then c - 55 else -1):=Zz rfl;go_enter func263,ntmps263;go_wp2
 all_goals go_ret
 all_goals exact ⟨ret_int (by rw [HD.o];repeat' split;all_goals omega),rfl⟩
theorem plain_calls (c:Nat) (h1:c <= 1114111) (w:World) :
  Calls Tryz.prog 164 #[.int .i32 (c:Int)] w fun e w'=>e = .returned (.bool (alnum c))/\w = w':=by
 have HD:Hid (alnum c = true ↔ (97 <= c/\c <= 122) \/ (65 <= c/\c <= 90) \/ (48 <= c/\c <= 57)):=Zz (by unfold alnum;simp [or_assoc]);go_enter func164,ntmps164;go_wp2
 all_goals go_ret
 all_goals exact ⟨ret_bool (by rw [Bool.eq_iff_iff,HD.o];simp;omega),rfl⟩
end Prg
namespace Prg
open Go.RowKit Go.Lib B Rd Utf TermPure LinesPure Tx Env Bld
theorem hexGo_ge:∀ (n v:Nat) (l:List UInt8) (x:Nat) (r:List UInt8),hexGo n v l = some (x,r) -> v <= x
 | 0,v,l,x,r,h=>by rw [hexGo] at h;cases h;exact lR _
 | n + 1,v,[],x,r,h=>by rw [hexGo] at h;cases h
 | n + 1,v,b :: l,x,r,h=>by
  rw [hexGo] at h
  cases hb:hexV b with
  | none=>rw [hb] at h;cases h
  | some d =>
   rw [hb] at h
   have:=hexGo_ge n _ l x r h
   omega
theorem rune_big (n v:Nat) (l:List UInt8) (hv:1114111 < v):rune (hexGo n v l) = none:=by
 cases h:hexGo n v l with
 | none=>rfl
 | some p =>
  obtain ⟨x,r⟩:=p;have:=hexGo_ge n v l x r h;rw [rune,if_neg];unfold Lib.validRune;rw [decide_eq_true_iff];omega
theorem hexV_high (b:UInt8) (h:128 <= b.toNat):hexV b = none:=by rw [hexV,if_neg (by omega),if_neg (by omega),if_neg (by omega)]
theorem dig_step (q:List UInt8) (hne:q ≠ []) (hv:validD q = true) (m v:Nat) :
  (digI ((decodeL q).1:Nat) = -1/\hexGo (m + 1) v q = none) \/ (∃ d:Nat,d <= 15/\digI ((decodeL q).1:Nat) = (d:Int)/\hexGo (m + 1) v q = hexGo m (v * 16 + d) (q.drop (decodeL q).2)):=by
 rcases Utf.step q hne hv with ⟨b,t,rfl,hb,hd,ht⟩ | ⟨ch,t,c,hc⟩
 ·
  rw [hd];dsimp only;rw [hexGo];by_cases d1:48 <= b.toNat/\b.toNat <= 57
  ·
   right;refine ⟨b.toNat - 48,by omega,?_,?_⟩
   ·
    rw [digI,if_pos (by omega)];omega
   ·
    rw [hexV,if_pos d1];rfl
  ·
   by_cases d2:97 <= b.toNat/\b.toNat <= 102
   ·
    right;refine ⟨b.toNat - 87,by omega,?_,?_⟩
    ·
     rw [digI,if_neg (by omega),if_pos (by omega)];omega
    ·
     rw [hexV,if_neg d1,if_pos d2];rfl
   ·
    by_cases d3:65 <= b.toNat/\b.toNat <= 70
    ·
     right;refine ⟨b.toNat - 55,by omega,?_,?_⟩
     ·
      rw [digI,if_neg (by omega),if_neg (by omega),if_pos (by omega)];omega
     ·
      rw [hexV,if_neg d1,if_neg d2,if_pos d3];rfl
    ·
     left;refine ⟨?_,?_⟩
     ·
      rw [digI,if_neg (by omega),if_neg (by omega),if_neg (by omega)]
     ·
      rw [hexV,if_neg d1,if_neg d2,if_neg d3]
 ·
  left;rw [hc.dec];have h128:=hc.ge;refine ⟨?_,?_⟩
  ·
   rw [digI,if_neg (by dsimp only;omega),if_neg (by dsimp only;omega),if_neg (by dsimp only;omega)]
  ·
   have h2:=hc.two;obtain ⟨b,ch',rfl⟩:∃ b ch',ch = b :: ch':=by cases ch with
    | nil=>simp at h2
    | cons b ch'=>exact ⟨b,ch',rfl⟩
   have hb:=hc.high b (by simp);rw [hc.eq,List.cons_append,hexGo,hexV_high b hb]
def NumPost (w:World) (rb:Nat) (r:Option (List UInt8 × List UInt8)) (e:Ending) (w':World):Prop:=match r with
 | none=>∃ (c:Int) (s:List UInt8),e = .returned (.int .i32 c)/\Step w w' rb s true
 | some (o,q)=>∃ v:Nat,e = .returned (.int .i32 (v:Int))/\v <= 1114111/\encodeRune (v:Int) = o/\Step w w' rb q false/\validD q = true
theorem number_calls (rb:Nat) (l:List UInt8) (n:Nat) (hn:n <= 8) (hv:validD l = true) (w:World) (he:Env w) (hrb:lowB <= rb) (h:At w rb l false) :
  Calls Tryz.prog 251 #[.pointer (some ⟨rb,0,none⟩),.int .i64 n] w fun e w'=>NumPost w rb (rune (hexGo n 0 l)) e w':=by
 have HS0:=Zz (Step.refl h);have HE0:=Zz he;have HV0:=Zz hv;clear h he hv;go_enter func251,ntmps251;go_wp2;go_loopw [5,8] (fun vx vi wr=>∃ (k v:Nat) (q:List UInt8),k <= n/\vi = .int .i64 k/\vx = .int .i32 v/\v <= 17825791/\Hid (Step w wr rb q false)/\Hid (Env wr)/\Hid (validD q = true)/\Hid (hexGo n 0 l = hexGo (n - k) v q)) (fun _ vi _=>n - (intOf vi).toNat)
 case atStart=>exact ⟨0,0,l,by omega,rfl,rfl,by omega,HS0,HE0,HV0,Zz (by simp)⟩
 case round =>
  obtain ⟨k,v,q,hk,rfl,rfl,hvb,HS,HE,HV,HG⟩:=hrel;have hv0:(0:Int) <= (v:Int):=by omega
  have hv1:(v:Int) <= 17825791:=by omega
  by_cases hlt:k < n
  ·
   have hd:decide (k < n) = true:=dT hlt;have ik0:(0:Int) <= (k:Int):=by omega
   have ik1:(k:Int) <= 7:=by omega
   have hnk:n - k = (n - (k + 1)) + 1:=by omega
   rw [hnk] at HG;by_cases hne:q = []
   ·
    subst hne;have HN:Hid (rune (hexGo n 0 l) = none):=Zz (by rw [HG.o];rfl);clear hnk HG;go_wp2_with fail;refine (take_end_calls rb [] false (.inr rfl) _ HS.o.at').mono ?_;rintro e w1 ⟨rfl,hs1⟩;have HS1:=Zz (HS.o.trans hs1);obtain ⟨c0,c1,f0,f1,_⟩:=HS1.o.at';clear hs1;go_wp2_with fail;refine (digit_calls (-1) (by omega) (by omega) _).mono ?_;rintro e w2 ⟨rfl,rfl⟩;rw [show digI (-1) = -1 from rfl];go_wp2;go_ret;rw [HN.o];exact ⟨_,_,rfl,HS1.o.set1 true⟩
   ·
    have hst:=dig_step q hne HV.o (n - (k + 1)) v;obtain ⟨r1,r2,r3,r4⟩:=rune_len q hne HV.o;have HT:=Zz (take_calls rb q hne HV.o);have R4:=Zz r4;have HDg:=Zz (fun w=>digit_calls ((decodeL q).1:Nat) (by omega) (by omega) w);clear hnk r1 r4 hne;generalize (decodeL q).1 = c at *;generalize q.drop (decodeL q).2 = q' at *;go_wp2_with fail;refine (HT.o _ HE.o HS.o.at').mono ?_;rintro e w1 ⟨rfl,hs1⟩;have HS1:=Zz (HS.o.trans hs1);have HE1:=Zz (HE.o.step hs1 hrb);obtain ⟨c0,c1,f0,f1,_⟩:=HS1.o.at';clear hs1 HT;go_wp2_with fail;refine (HDg.o _).mono ?_;rintro e w2 ⟨rfl,rfl⟩;rcases hst with ⟨g1,g2⟩ | ⟨d,g1,g2,g3⟩
    ·
     have HN:Hid (rune (hexGo n 0 l) = none):=Zz (by rw [HG.o,g2];rfl);rw [g1];clear g1 g2 HG HDg;go_wp2;go_ret;rw [HN.o];exact ⟨_,_,rfl,HS1.o.set1 true⟩
    ·
     have HG1:=Zz (HG.o.trans g3);rw [g2];clear g2 g3 HG HDg;have hd1:((d:Int) == -1) = false:=by rw [Zb];omega
     have i1:(0:Int) <= (d:Int):=by omega
     have i2:(d:Int) <= 15:=by omega
     by_cases hbig:v <= 1114111
     ·
      have e1:decide (1114111 < (v:Int)) = false:=dF (by omega);have i3:(v:Int) <= 1114111:=by omega
      clear hv1;go_wp2;go_roundw
      case rel=>exact ⟨k + 1,v * 16 + d,q',by omega,by go_num,by go_num,by omega,HS1,HE1,R4,HG1⟩
      case measure=>simp [intOf];omega
     ·
      have e1:decide (1114111 < (v:Int)) = true:=dT (by omega);have HN:Hid (rune (hexGo n 0 l) = none):=Zz (by rw [HG1.o];exact rune_big _ _ _ (by omega));go_wp2;go_ret;rw [HN.o];exact ⟨_,_,rfl,HS1.o.set1 true⟩
  ·
   obtain rfl:k = n:=by omega
   rw [Nat.sub_self,hexGo] at HG;obtain ⟨c0,c1,f0,f1,_⟩:=HS.o.at';go_wp2_with fail;refine (validRune_calls (v:Int) _).mono ?_;rintro e w2 ⟨rfl,rfl⟩;cases hvr:Lib.validRune (v:Int) with
   | true =>
    have HN:Hid (rune (hexGo k 0 l) = some (encodeRune (v:Int),q)):=Zz (by rw [HG.o,rune,if_pos hvr]);have hle:v <= 1114111:=by
     unfold Lib.validRune at hvr;rw [decide_eq_true_iff] at hvr;omega
    clear hvr HG;go_wp2;go_ret;rw [HN.o];exact ⟨v,rfl,hle,rfl,HS.o,HV.o⟩
   | false =>
    have HN:Hid (rune (hexGo k 0 l) = none):=Zz (by rw [HG.o,rune,if_neg (by rw [hvr];decide)]);clear hvr HG;go_wp2;go_ret;rw [HN.o];exact ⟨_,_,rfl,HS.o.set1 true⟩
end Prg
namespace Prg
open Go.RowKit Go.Lib B Rd Utf TermPure LinesPure Tx Env Bld
theorem quiet_add_same {P:Program} {f:FuncId} {args:Array Value} {w:World} {a n:Nat} {v:Value}
  (h:Calls P f args (w.drewN (a + n)) fun e w'=>e = .returned v/\w' = w.drewN (a + n)) :
  Calls P f args (w.drewN (a + n)) fun e w''=>e = .returned v/\∃ m,w'' = w.drewN (a + m):=
 h.mono fun _ _ ⟨he,hm⟩=>⟨he,n,hm⟩
theorem indexByte_no:∀ (l:List UInt8) (c:UInt8),(∀ b ∈ l,b ≠ c) -> indexByte l c = -1
 | [],c,h=>rfl
 | b :: l,c,h=>by
  have hb:(b == c) = false:=by rw [Zb];exact h b (by simp)
  have ih:=indexByte_no l c (fun x hx=>h x (by simp [hx]));unfold indexByte;rw [hb,ih]
  try rfl
theorem indexRune_none_calls (L:List UInt8) (w:World) :
  Calls Tryz.prog 249 #[.string (mkS L),.int .i32 (-1)] w fun e w'=>e = .returned (.int .i64 (-1))/\Below w.heap.size w w':=by
 go_enter func249,ntmps249;go_wp2_with fail;refine (validRune_calls (-1) _).mono ?_;rintro e w1 ⟨rfl,rfl⟩;rw [show Lib.validRune (-1) = false from rfl];go_wp2;go_ret;exact ⟨rfl,bR _ _⟩
theorem indexRune_err_calls (L:List UInt8) (hL:∀ b ∈ L,b.toNat < 128) (hlen:L.length <= 1000) (w:World) :
  Calls Tryz.prog 249 #[.string (mkS L),.int .i32 65533] w fun e w'=>e = .returned (.int .i64 (-1))/\Below w.heap.size w w':=by
 have z:=mkS_size L;have HL:=Zz hL;clear hL;go_enter func249,ntmps249;go_wp2;go_loopw [] (fun wr=>∃ pos:Nat,wr = w.iter (mkS L) pos) (fun wr=>L.length - wr.iterPos w.heap.size)
 case atStart=>exact ⟨0,rfl⟩
 case round =>
  obtain ⟨pos,rfl⟩:=hrel;by_cases hp:pos < L.length
  ·
   have hp':pos < (mkS L).size:=by rw [z];exact hp
   obtain ⟨b,hb0⟩:∃ b,L[pos] = b:=⟨_,rfl⟩;have hg:(mkS L)[pos]'hp' = b:=(Rd.mkS_get L pos hp' hp).trans hb0;have hb:b.toNat < 128:=by rw [<- hb0];exact HL.o _ (Zm hp)
   have hnx:∀ ty,(Instr.next (.pointer (some ⟨w.heap.size,0,none⟩)) true ty).run Tryz.prog (w.iter (mkS L) pos) = .ok (.tuple #[.bool true,.int .i64 pos,.int .i32 (b.toNat:Int)]) (w.iter (mkS L) (pos + 1)):=fun ty=>by
    have:=run_next_ascii (P:=Tryz.prog) w (mkS L) pos ty hp' (by rw [hg];exact hb);rw [hg] at this;exact this
   have hne:((b.toNat:Int) == 65533) = false:=by rw [Zb];omega
   clear hb0 hg hb;go_wp2;go_roundw
   case rel=>exact ⟨pos + 1,rfl⟩
   case measure=>simp;omega
  ·
   have hnx:∀ ty,(Instr.next (.pointer (some ⟨w.heap.size,0,none⟩)) true ty).run Tryz.prog (w.iter (mkS L) pos) = .ok (.tuple #[.bool false]) (w.iter (mkS L) pos):=fun ty=>run_next_end w (mkS L) pos ty (by rw [z];exact hp)
   go_wp2;go_ret;exact ⟨rfl,(bR _ _).alloc (lR _) _⟩
theorem indexRune_high_calls (L:List UInt8) (hL:∀ b ∈ L,b.toNat < 128) (hlen:L.length <= 1000) (h4:4 <= L.length) (ch:List UInt8) (n:Nat) (h128:128 <= n) (hn:n <= 1114111) (hv:Lib.validRune (n:Int) = true) (he:encodeRune (n:Int) = ch) (hne:n ≠ 65533) (hhigh:∀ b ∈ ch,128 <= b.toNat) (h2:2 <= ch.length) (hc4:ch.length <= 4) (w:World) :
  Calls Tryz.prog 249 #[.string (mkS L),.int .i32 (n:Int)] w fun e w'=>e = .returned (.int .i64 (-1))/\Below w.heap.size w w':=by
 have z:=mkS_size L;have henc:Utf8.encode (n:Int) = mkS ch:=by rw [encode_eq n hv,he]
 obtain ⟨k,hk⟩:∃ k,ch.length = k + 1:=⟨ch.length - 1,by omega⟩;have zc:(mkS ch).size = k + 1:=by rw [mkS_size,hk]
 have hk3:k <= 3:=by omega
 have hkL:k < L.length:=by omega
 have hkc:k < ch.length:=by omega
 have e1:((n:Int) == 65533) = false:=by rw [Zb];omega
 have e2:decide ((n:Int) < 128) = false:=dF (by omega);have i0:(0:Int) <= (n:Int):=by omega
 obtain ⟨b1,hb1⟩:∃ b,L[k] = b:=⟨_,rfl⟩;obtain ⟨b2,hb2⟩:∃ b,ch[k] = b:=⟨_,rfl⟩;have hk1:k < (mkS L).size:=by rw [z];exact hkL
 have hk2:k < (mkS ch).size:=by rw [zc];omega
 have hg1:(mkS L)[k]'hk1 = b1:=(Rd.mkS_get L k hk1 hkL).trans hb1;have hg2:(mkS ch)[k]'hk2 = b2:=(Rd.mkS_get ch k hk2 hkc).trans hb2;have hl1:b1.toNat < 128:=by rw [<- hb1];exact hL _ (Zm hkL)
 have hl2:128 <= b2.toNat:=by rw [<- hb2];exact hhigh _ (Zm hkc)
 have hdiff:((b1.toNat:Int) != (b2.toNat:Int)) = true:=by rw [bne_iff_ne];omega
 have hx:(mkS L).extract (k + 1) L.length = mkS (L.drop (k + 1)):=by rw [mkS_extract,List.take_of_length_le (by simp)]
 have HIB:∀ W,Calls Tryz.prog 261 #[.string (mkS (L.drop (k + 1))),.int .u8 (b2.toNat:Int)] W fun e w'=>e = .returned (.int .i64 (-1))/\w' = W:=fun W=>by
  refine (Tryz.strings_IndexByte (mkS (L.drop (k + 1))) (b2.toNat:Int) W).mono ?_;rintro e w' ⟨h1,h2⟩;refine ⟨?_,h2⟩
  rw [h1];have:indexByte (mkS (L.drop (k + 1))).data.toList ((b2.toNat:Int)).toNat.toUInt8 = -1:=by
   apply indexByte_no;intro b hb e;have hb':b ∈ L:=List.mem_of_mem_drop hb;have:=hL b hb';have e2:b.toNat = b2.toNat:=by rw [e];simp
   omega
  rw [this]
 have HI:=Zz HIB;have zq:=mkS_size (L.drop (k + 1));have hi1:(k:Int) + 1 <= (L.length:Int):=by omega
 have hi2:(k:Int) < (L.length:Int):=by omega
 have hi3:(0:Int) <= (k:Int):=by omega
 have hd:decide (k < L.length) = true:=dT hkL;have hvr:=Zz hv;clear hL he hne hhigh hb1 hb2 hl1 hl2 HIB hv h128 hn h2 hc4 hk hkc;generalize L.drop (k + 1) = q at *;go_enter func249,ntmps249;go_wp2_with fail;refine (validRune_calls (n:Int) _).mono ?_;rintro e w1 ⟨rfl,rfl⟩;rw [hvr.o];go_wp2;go_step3;go_wp2;go_loopw [9,10] (fun v9 v10 wr=>v9 = .int .i64 k/\v10 = .int .i64 0/\wr = w) (fun _ _ _=>0)
 case atStart=>exact ⟨by go_num,rfl,rfl⟩
 case round =>
  obtain ⟨rfl,rfl,rfl⟩:=hrel;go_wp2;go_step3;go_wp2;go_quiet (fail);go_wp2;have hw1:IntKind.i64.wrap ((k:Int) + 1) = (k:Int) + 1:=IntWalk.i64_in _ (by omega);have hw2:(0:Int) <= (k:Int) + 1:=by omega
  have hw3:((k:Int) + 1).toNat = k + 1:=by omega
  have hw4:(k:Int) < (k:Int) + 1:=by omega
  have hw5:(k:Int) < ((k + 1:Nat):Int):=by omega
  have hw6:k < k + 1:=by omega
  go_quiet ((go_at_call 261;exact quiet_add_same (HI.o _)));go_wp2;rw [Exit.noGoto_ret];simp (config:={ zetaDelta:=true }) only [Exit.inBlock,Exit.noGoto_ret,Exit.then];go_ret;exact ⟨rfl,bel_drewN (bR _ _) _⟩
def escL:List UInt8:=[116,98,110,114,102,34,39,92]
def escTT:List UInt8:=[9,8,10,13,12,34,39,92]
theorem escL_index:∀ n:Fin 256,(indexByte escL (UInt8.ofNat n.val) = -1/\escV (UInt8.ofNat n.val) = none) \/ (∃ k:Fin 8,indexByte escL (UInt8.ofNat n.val) = (k.val:Int)/\escV (UInt8.ofNat n.val) = escTT[k.val]?):=by decide +kernel
theorem escL_byte (b:UInt8):(indexByte escL b = -1/\escV b = none) \/ (∃ k:Nat,∃ hk:k < 8,indexByte escL b = (k:Int)/\escV b = some (escTT[k]'hk)):=by
 have h:=escL_index ⟨b.toNat,b.toNat_lt⟩;rw [show UInt8.ofNat b.toNat = b from by simp] at h;rcases h with h | ⟨⟨k,hk⟩,h1,h2⟩
 ·
  exact .inl h
 ·
  exact .inr ⟨k,hk,h1,by rw [h2];exact Zg hk⟩
theorem indexRune_ascii_calls (b:UInt8) (hb:b.toNat < 128) (w:World) :
  Calls Tryz.prog 249 #[.string (mkS escL),.int .i32 (b.toNat:Int)] w fun e w'=>e = .returned (.int .i64 (indexByte escL b))/\Below w.heap.size w w':=by
 refine (Tryz.strings_IndexRune_ascii (mkS escL) (b.toNat:Int) w (by omega) (by omega)).mono ?_;rintro e w' ⟨h1,h2⟩;refine ⟨?_,by rw [h2];exact bR _ _⟩
 rw [h1];have:((b.toNat:Int)).toNat.toUInt8 = b:=by simp
 rw [this]
 try rfl
theorem esc_sign (b:UInt8) (t:List UInt8) (lit:Bool) (h1:b.toNat ≠ 117) (h2:b.toNat ≠ 85):esc lit (b :: t) = if lit then (match escV b with
   | some c=>some ([c],t)
   | none=>none) else none:=by
 rw [esc,if_neg (fun e=>h1 (by rw [e];rfl)),if_neg (fun e=>h2 (by rw [e];rfl))]
 try rfl
theorem escV_high (b:UInt8) (h:128 <= b.toNat):escV b = none:=by
 unfold escV
 repeat' split
 all_goals first | rfl | (rename_i e;rw [e] at h;exact absurd h (by decide))
theorem esc_high (b:UInt8) (t:List UInt8) (lit:Bool) (h:128 <= b.toNat):esc lit (b :: t) = none:=by
 rw [esc_sign b t lit (by omega) (by omega),escV_high b h];cases lit <;> rfl
theorem indexRune_any_calls (l:List UInt8) (hne:l ≠ []) (hv:validD l = true) (w:World) :
  Calls Tryz.prog 249 #[.string (mkS escL),.int .i32 ((decodeL l).1:Nat)] w fun e w'=>(∃ i:Int,e = .returned (.int .i64 i)/\((i = -1/\128 <= (decodeL l).1) \/ ∃ b t,l = b :: t/\b.toNat < 128/\i = indexByte escL b))/\Below w.heap.size w w':=by
 rcases Utf.step l hne hv with ⟨b,t,rfl,hb,hd,ht⟩ | ⟨ch,t,c,hc⟩
 ·
  rw [hd];refine (indexRune_ascii_calls b hb w).mono ?_;rintro e w' ⟨h1,h2⟩;exact ⟨⟨_,h1,.inr ⟨b,t,rfl,hb,rfl⟩⟩,h2⟩
 ·
  rw [hc.dec];dsimp only;have hL:∀ b ∈ escL,b.toNat < 128:=by decide
  by_cases hne2:c = 65533
  ·
   subst hne2;refine (indexRune_err_calls escL hL (by decide) w).mono ?_;rintro e w' ⟨h1,h2⟩;exact ⟨⟨_,h1,.inl ⟨rfl,hc.ge⟩⟩,h2⟩
  ·
   refine (indexRune_high_calls escL hL (by decide) (by decide) ch c hc.ge hc.le hc.valid hc.enc hne2 hc.high hc.two hc.four w).mono ?_;rintro e w' ⟨h1,h2⟩;exact ⟨⟨_,h1,.inl ⟨rfl,hc.ge⟩⟩,h2⟩
theorem escape_calls (rb:Nat) (l:List UInt8) (lit:Bool) (hv:validD l = true) (w:World) (he:Env w) (hrb:lowB <= rb) (h:At w rb l false) :
  Calls Tryz.prog 235 #[.pointer (some ⟨rb,0,none⟩),.bool lit] w fun e w'=>NumPost w rb (esc lit l) e w':=by
 by_cases hne:l = []
 ·
  subst hne;have HA:=Zz h;clear hv;go_enter func235,ntmps235;go_wp2_with fail;refine (take_end_calls rb [] false (.inr rfl) _ HA.o).mono ?_;rintro e w1 ⟨rfl,hs1⟩;have HS1:=Zz hs1;clear hs1;go_wp2_with fail;refine (indexRune_none_calls escL _).mono ?_;rintro e w2 ⟨rfl,hb2⟩;have HS2:=Zz (HS1.o.below hb2);obtain ⟨c0,c1,f0,f1,_⟩:=HS2.o.at';clear hb2;cases lit
  ·
   go_wp2;go_ret;exact ⟨_,_,rfl,HS2.o.set1 true⟩
  ·
   go_wp2;go_ret;exact ⟨_,_,rfl,HS2.o.set1 true⟩
 ·
  have HA:=Zz h;have HE:=Zz he;obtain ⟨r1,r2,r3,r4⟩:=rune_len l hne hv;have HT:=Zz (take_calls rb l hne hv);have HI:=Zz (indexRune_any_calls l hne hv);have HD:Hid (∀ b t,l = b :: t -> b.toNat < 128 -> (decodeL l).1 = b.toNat/\l.drop (decodeL l).2 = t):=Zz (fun b t e hb=>by
   subst e;rw [decodeL_ascii b t hb];exact ⟨rfl,rfl⟩)
  have HH:Hid (128 <= (decodeL l).1 -> esc lit l = none):=Zz (fun h=>by
   cases l with
   | nil=>rfl
   | cons b t =>
    by_cases hb:b.toNat < 128
    ·
     rw [decodeL_ascii b t hb] at h;dsimp only at h;omega
    ·
     exact esc_high b t lit (by omega))
  have R4:=Zz r4;have i0:((decodeL l).1:Int) <= 1114111:=by omega
  have i1:(0:Int) <= ((decodeL l).1:Int):=by omega
  clear h he hv r1 r3 r4 r2 hne;generalize (decodeL l).1 = c at *;generalize l.drop (decodeL l).2 = q at *;go_enter func235,ntmps235;go_wp2_with fail;refine (HT.o _ HE.o HA.o).mono ?_;rintro e w1 ⟨rfl,hs1⟩;have HS1:=Zz hs1;have HE1:=Zz (HE.o.step hs1 hrb);clear hs1 HT;go_wp2_with fail;refine (HI.o _).mono ?_;rintro e w2 ⟨⟨i,rfl,hi⟩,hb2⟩;have HS2:=Zz (HS1.o.below hb2);have HE2:=Zz (HE1.o.below hb2);obtain ⟨c0,c1,f0,f1,_⟩:=HS2.o.at';clear hb2 HI;rcases hi with ⟨rfl,h128⟩ | ⟨b,t,hl,hb,rfl⟩
  ·
   have HN:=Zz (HH.o h128);have e1:((c:Int) == 117) = false:=by rw [Zb];omega
   have e2:((c:Int) == 85) = false:=by rw [Zb];omega
   clear h128 HH HD;cases lit
   ·
    go_wp2;go_ret;rw [HN.o];exact ⟨_,_,rfl,HS2.o.set1 true⟩
   ·
    go_wp2;go_ret;rw [HN.o];exact ⟨_,_,rfl,HS2.o.set1 true⟩
  ·
   obtain ⟨hc,hq⟩:=HD.o b t hl hb;subst hc hq;have HL:=Zz hl;clear hl HD HH;by_cases h117:b.toNat = 117
   ·
    have HN:Hid (esc lit l = rune (hexGo 4 0 q)):=Zz (by
     rw [HL.o,show b = 117 from UInt8.toNat_inj.1 h117];rfl)
    have e1:((b.toNat:Int) == 117) = true:=by rw [beq_iff_eq];omega
    clear h117;go_wp2_with fail;refine (number_calls rb q 4 (by decide) R4.o _ HE2.o hrb HS2.o.at').mono ?_;intro e w3 hp;cases hr:rune (hexGo 4 0 q) with
    | none =>
     rw [hr] at hp;obtain ⟨c,s,rfl,hs3⟩:=hp;have HS3:=Zz (HS2.o.trans hs3);have HN2:=Zz (HN.o.trans hr);clear hr hs3 HN;go_wp2;go_ret;rw [HN2.o];exact ⟨_,_,rfl,HS3.o⟩
    | some p =>
     obtain ⟨o,q'⟩:=p;rw [hr] at hp;obtain ⟨v,rfl,hv1,hv2,hs3,hv3⟩:=hp;have HS3:=Zz (HS2.o.trans hs3);have HV:=Zz (And.intro hv2 hv3);have HN2:=Zz (HN.o.trans hr);clear hr hs3 HN hv2 hv3;go_wp2;go_ret;rw [HN2.o];exact ⟨v,rfl,hv1,HV.o.1,HS3.o,HV.o.2⟩
   ·
    have e1:((b.toNat:Int) == 117) = false:=by rw [Zb];omega
    by_cases h85:b.toNat = 85
    ·
     have HN:Hid (esc lit l = rune (hexGo 8 0 q)):=Zz (by
      rw [HL.o,show b = 85 from UInt8.toNat_inj.1 h85];rfl)
     have e2:((b.toNat:Int) == 85) = true:=by rw [beq_iff_eq];omega
     clear h85 h117;go_wp2_with fail;refine (number_calls rb q 8 (by decide) R4.o _ HE2.o hrb HS2.o.at').mono ?_;intro e w3 hp;cases hr:rune (hexGo 8 0 q) with
     | none =>
      rw [hr] at hp;obtain ⟨c,s,rfl,hs3⟩:=hp;have HS3:=Zz (HS2.o.trans hs3);have HN2:=Zz (HN.o.trans hr);clear hr hs3 HN;go_wp2;go_ret;rw [HN2.o];exact ⟨_,_,rfl,HS3.o⟩
     | some p =>
      obtain ⟨o,q'⟩:=p;rw [hr] at hp;obtain ⟨v,rfl,hv1,hv2,hs3,hv3⟩:=hp;have HS3:=Zz (HS2.o.trans hs3);have HV:=Zz (And.intro hv2 hv3);have HN2:=Zz (HN.o.trans hr);clear hr hs3 HN hv2 hv3;go_wp2;go_ret;rw [HN2.o];exact ⟨v,rfl,hv1,HV.o.1,HS3.o,HV.o.2⟩
    ·
     have e2:((b.toNat:Int) == 85) = false:=by rw [Zb];omega
     have HN:Hid (esc lit l = if lit then (match escV b with
      | some c=>some ([c],q)
      | none=>none) else none):=Zz (by rw [HL.o];exact esc_sign b q lit h117 h85)
     have EB:=escL_byte b;clear h117 h85 HL;cases lit with
     | false =>
      generalize indexByte escL b = i at *;clear EB;go_wp2;go_ret;rw [HN.o];exact ⟨_,_,rfl,HS2.o.set1 true⟩
     | true =>
      rcases EB with ⟨g1,g2⟩ | ⟨k,hk,g1,g2⟩
      ·
       have HN2:Hid (esc true l = none):=Zz (by rw [HN.o,g2];rfl);rw [g1];clear g1 g2 HN;go_wp2;go_ret;rw [HN2.o];exact ⟨_,_,rfl,HS2.o.set1 true⟩
      ·
       have HN2:Hid (esc true l = some ([escTT[k]'hk],q)):=Zz (by rw [HN.o,g2];rfl);rw [g1];have hd0:decide ((0:Int) <= (k:Int)) = true:=dT (by omega);have ik0:(0:Int) <= (k:Int):=by omega
       have ik8:(k:Int) < 8:=by omega
       have HA9:Hid (∀ j:Nat,(hj:j < 8) -> (escTT[j]'hj).toNat < 128):=Zz (by decide);clear g1 g2 HN;go_wp2;go_ret;rw [HN2.o];refine ⟨(escTT[k]'hk).toNat,(ret_int (by have:=HA9.o k hk;unfold wrap32;omega):Ending.returned (.int .i32 (wrap32 ((escTT[k]'hk).toNat:Int))) = .returned (.int .i32 ((escTT[k]'hk).toNat:Int))),by have:=HA9.o k hk;omega,?_,HS2.o,R4.o⟩;have h128:=HA9.o k hk;rw [encodeRune,encodeRuneZ_one (by omega) (by omega)];simp
end Prg
namespace Prg
open Go.RowKit Go.Lib B Rd Utf TermPure LinesPure Tx Env Bld
theorem up_chunk (stop:UInt8) (hs:stop.toNat < 128) (lit nl:Bool) (t:List UInt8):∀ ch:List UInt8,(∀ b ∈ ch,128 <= b.toNat) -> up stop lit nl (ch ++ t) = (up stop lit nl t).map fun x=>(ch ++ x.1,x.2)
 | [],_=>by simp
 | b :: ch,h=>by
  have hb:=h b (by simp);have ih:=up_chunk stop hs lit nl t ch (fun x hx=>h x (by simp [hx]));have h1:b ≠ stop:=fun e=>by rw [e] at hb;omega
  have h2:b ≠ 92:=fun e=>by rw [e] at hb;exact absurd hb (by decide)
  have h3:¬ (nl = true/\(b = 10 \/ b = 13)):=by
   rintro ⟨_,e | e⟩
   ·
    rw [e] at hb;exact absurd hb (by decide)
   ·
    rw [e] at hb;exact absurd hb (by decide)
  rw [List.cons_append,up_other stop lit nl b _ h1 h2 h3,ih,Option.map_map];congr 1
def UntPost (w:World) (rb:Nat) (r:Option (List UInt8 × List UInt8)) (e:Ending) (w':World):Prop:=match r with
 | none=>∃ (o s:List UInt8),e = .returned (.string (mkS o))/\Step w w' rb s true
 | some (o,q)=>e = .returned (.string (mkS o))/\Step w w' rb q false/\validD q = true
structure Rnd (w wr:World) (rb:Nat) (l q out:List UInt8) (stop:UInt8) (lit:Bool):Prop where
 step:Step w wr rb q false
 bld:Bld w.heap.size w.heap.size out wr
 env:Env wr
 valid:validD q = true
 len:out.length + q.length <= l.length
 says:up stop lit lit l = (up stop lit lit q).map fun x=>(out ++ x.1,x.2)
theorem until_calls (rb:Nat) (l:List UInt8) (stop:UInt8) (hst:stop.toNat < 128) (hs92:stop ≠ 92) (lit:Bool) (hv:validD l = true) (w:World) (he:Env w) (hrb:lowB <= rb) (h:At w rb l false) :
  Calls Tryz.prog 205 #[.pointer (some ⟨rb,0,none⟩),.int .i32 (stop.toNat:Int),.bool lit] w fun e w'=>UntPost w rb (up stop lit lit l) e w':=by
 have hlt:=h.lt;have hlen:=h.len;have hlow:=he.low;have hR0:Hid (Rnd w (w.alloc (.cells #[.pointer none,.slice none 0 0] 161)) rb l l [] stop lit):=
  Zz ⟨(Step.refl h).alloc _,Bld.new w,he.below (bel_alloc (bR _ _) _),hv,by simp,by simp⟩
 clear h he hv;go_enter func205,ntmps205;go_wp2;go_step3;go_wp2;go_step3;go_wp2;go_loopg [] (l.length + 1) (fun n wr=>∃ (q out:List UInt8),Hid (n = q.length + 1)/\Hid (Rnd w wr rb l q out stop lit))
 case atStart=>exact ⟨l,[],Zz rfl,hR0⟩
 case round =>
  obtain ⟨q,out,HN,HR⟩:=hrel;have hbl:=HR.o.len;obtain ⟨c0,c1,f0,f1,hql⟩:=HR.o.step.at';by_cases hne:q = []
  ·
   subst hne;have HO:Hid (up stop lit lit l = none):=Zz (HR.o.says.trans (by rw [up_nil];rfl));go_wp2_with fail;refine (take_end_calls rb [] false (.inr rfl) _ HR.o.step.at').mono ?_;rintro e w1 ⟨rfl,hs1⟩;have HS1:=Zz (HR.o.step.trans hs1);have HB1:=Zz (HR.o.bld.grown hs1.grown hlt);have HZ1:w.heap.size <= w1.heap.size:=HS1.o.grown.size;have e1:((-1:Int) == (stop.toNat:Int)) = false:=by rw [Zb];omega
   obtain ⟨c0,c1,f0,f1,_⟩:=HS1.o.at';clear hs1;cases lit
   all_goals
    go_wp2_with fail;refine (string_calls _ _ out _ HB1.o HZ1).mono ?_;rintro e w2 ⟨rfl,_,hb2⟩;have HS2:=Zz (HS1.o.belowB hb2 hlt);clear hb2;go_wp2;go_ret;rw [HO.o];exact ⟨_,_,rfl,HS2.o⟩
  ·
   obtain ⟨r1,r2,r3,r4⟩:=rune_len q hne HR.o.valid;have HT:=Zz (take_calls rb q hne HR.o.valid _ HR.o.env HR.o.step.at');have hst2:=Utf.step q hne HR.o.valid;rcases hst2 with ⟨b,t,rfl,hb,hd,ht⟩ | ⟨ch,t,c,hc⟩
   ·
    rw [hd] at HT;simp only [List.drop_succ_cons,List.drop_zero] at HT;have HV:=Zz ht;have HD:=Zz hd;have hNt:Hid (t.length + 1 < gk):=Zz (by rw [HN.o];simp);have hbt:out.length + t.length + 1 <= l.length:=by simp at hbl;omega
    clear r1 r2 r3 r4 hne hd ht;go_wp2_with fail;refine HT.o.mono ?_;rintro e w1 ⟨rfl,hs1⟩;have HS1:=Zz (HR.o.step.trans hs1);have HB1:=Zz (HR.o.bld.grown hs1.grown hlt);have HE1:=Zz (HR.o.env.step hs1 hrb);have HZ1:w.heap.size <= w1.heap.size:=HS1.o.grown.size;have HU:=Zz HR.o.says;clear c0 c1 f0 f1 hs1 HT HR;obtain ⟨c0,c1,f0,f1,_⟩:=HS1.o.at';by_cases b1:b = stop
    ·
     subst b1;have HO:Hid (up b lit lit l = some (out,t)):=Zz (HU.o.trans (by rw [up_stop];simp));clear HU;go_wp2_with fail;refine (string_calls _ _ out _ HB1.o HZ1).mono ?_;rintro e w9 ⟨rfl,_,hb9⟩;have HS9:=Zz (HS1.o.belowB hb9 hlt);clear hb9;go_wp2;go_ret;rw [HO.o];exact ⟨rfl,HS9.o,HV.o⟩
    ·
     have e1:((b.toNat:Int) == (stop.toNat:Int)) = false:=by
      rw [Zb];intro e;exact b1 (UInt8.toNat_inj.1 (by omega))
     by_cases b2:b = 92
     ·
      have e2:((b.toNat:Int) == 92) = true:=by rw [beq_iff_eq,b2];rfl
      have HE0:=Zz (up_esc_none stop lit lit b t b1 b2);have HEs:=Zz (fun o r=>up_esc stop lit lit b t o r b1 b2);clear b1 b2;go_wp2_with fail;refine (escape_calls rb t lit HV.o _ HE1.o hrb HS1.o.at').mono ?_;intro e w2 hp;cases hr:esc lit t with
      | none =>
       rw [hr] at hp;obtain ⟨c,s,rfl,hs2⟩:=hp;have HO:Hid (up stop lit lit l = none):=Zz (HU.o.trans (by rw [HE0.o hr];rfl));have HS2:=Zz (HS1.o.trans hs2);have HB2:=Zz (HB1.o.grown hs2.grown hlt);have HZ2:w.heap.size <= w2.heap.size:=HS2.o.grown.size;clear c0 c1 f0 f1 hs2 hr HU;obtain ⟨c0,c1,f0,f1,_⟩:=HS2.o.at';go_wp2_with fail;refine (string_calls _ _ out _ HB2.o HZ2).mono ?_;rintro e w9 ⟨rfl,_,hb9⟩;have HS9:=Zz (HS2.o.belowB hb9 hlt);clear hb9;go_wp2;go_ret;rw [HO.o];exact ⟨_,_,rfl,HS9.o⟩
      | some p =>
       obtain ⟨o,r⟩:=p;rw [hr] at hp;obtain ⟨v,rfl,hv1,hv2,hs2,hv3⟩:=hp;have hlr:=esc_len2 lit t o r hr;have HO:=Zz (HU.o.trans (by rw [HEs.o o r hr,Option.map_map]));have HS2:=Zz (HS1.o.trans hs2);have HB2:=Zz (HB1.o.grown hs2.grown hlt);have HE2:=Zz (HE1.o.step hs2 hrb);have HZ2:w.heap.size <= w2.heap.size:=HS2.o.grown.size;have HV2:=Zz hv2;have HV3:=Zz hv3;clear c0 c1 f0 f1 hs2 hr HU hv2 hv3;obtain ⟨c0,c1,f0,f1,_⟩:=HS2.o.at';go_wp2_with fail;refine (writeRune_calls _ _ out v (by omega) _ HB2.o (by omega) HZ2).mono ?_;rintro e w8 ⟨⟨v8,rfl⟩,hb8,hbel8⟩;have HR8:Hid (Rnd w w8 rb l r (out ++ o) stop lit):=Zz ⟨HS2.o.belowB hbel8 hlt,HV2.o ▸ hb8,HE2.o.belowB hbel8 hlow,HV3.o,by simp;omega,HO.o.trans (by congr 1;funext x;simp)⟩;clear hb8 hbel8;go_wp2;go_roundg (r.length + 1)
       case measure=>have:=hNt.o;omega
       case rel=>exact ⟨r,_,Zz rfl,HR8⟩
     ·
      have e2:((b.toNat:Int) == 92) = false:=by
       rw [Zb];intro e;exact b2 (UInt8.toNat_inj.1 (by show b.toNat = 92;omega))
      by_cases b3:lit = true/\(b = 10 \/ b = 13)
      ·
       obtain ⟨hl1,b3⟩:=b3;subst hl1;have HO:Hid (up stop true true l = none):=Zz (HU.o.trans (by rw [up_line stop true true b t b1 b2 ⟨rfl,b3⟩];rfl));have h3:((b.toNat:Int) == 10) = true \/ ((b.toNat:Int) == 10) = false/\((b.toNat:Int) == 13) = true:=by
        rcases b3 with rfl | rfl
        ·
         exact .inl rfl
        ·
         exact .inr ⟨rfl,rfl⟩
       clear b1 b2 b3 HU;have HS3:=Zz (HS1.o.set1 true);have HB3:=Zz (HB1.o.grown (Rd.grown_setCell w1 ⟨rb,1,none⟩ (.bool true)) hlt);rcases h3 with h3 | ⟨h3,h4⟩
       all_goals
        go_wp2_with fail;refine (string_calls _ _ out _ HB3.o (by rw [World.size_setCell];exact HZ1)).mono ?_;rintro e w9 ⟨rfl,_,hb9⟩;have HS9:=Zz (HS3.o.belowB hb9 hlt);clear hb9;go_wp2;go_ret;rw [HO.o];exact ⟨_,_,rfl,HS9.o⟩
      ·
       have HO:=Zz (HU.o.trans (by rw [up_other stop lit lit b t b1 b2 b3,Option.map_map]));have henc:Hid (encodeRune (b.toNat:Int) = [b]):=Zz (by
        rw [encodeRune,encodeRuneZ_one (by omega) (by omega)];simp)
       have h3:lit = false \/ (lit = true/\((b.toNat:Int) == 10) = false/\((b.toNat:Int) == 13) = false):=by
        cases lit with
        | false=>exact .inl rfl
        | true =>
         refine .inr ⟨rfl,?_,?_⟩
         ·
          rw [Zb];intro e;exact b3 ⟨rfl,.inl (UInt8.toNat_inj.1 (by show b.toNat = 10;omega))⟩
         ·
          rw [Zb];intro e;exact b3 ⟨rfl,.inr (UInt8.toNat_inj.1 (by show b.toNat = 13;omega))⟩
       clear b1 b2 b3 HU;rcases h3 with rfl | ⟨rfl,h3,h4⟩
       all_goals
        go_wp2_with fail;refine (writeRune_calls _ _ out b.toNat (by omega) _ HB1.o (by omega) HZ1).mono ?_;rintro e w8 ⟨⟨v8,rfl⟩,hb8,hbel8⟩;have HR8:Hid (Rnd w w8 rb l t (out ++ [b]) stop _):=Zz ⟨HS1.o.belowB hbel8 hlt,henc.o ▸ hb8,HE1.o.belowB hbel8 hlow,HV.o,by simp;omega,HO.o.trans (by congr 1;funext x;simp)⟩;clear hb8 hbel8;go_wp2;go_roundg (t.length + 1)
        case measure=>have:=hNt.o;omega
        case rel=>exact ⟨t,_,Zz rfl,HR8⟩
   ·
    rw [hc.dec] at HT;dsimp only at HT;rw [hc.eq,List.drop_left] at HT;have HC:=Zz hc;have c128:=hc.ge;have cle:=hc.le;have hc2:=hc.two;have hc4:=hc.four;have hqe:q.length = ch.length + t.length:=by rw [hc.eq,Zl]
    have hNt:Hid (t.length + 1 < gk):=Zz (by rw [HN.o];omega);have hbt:out.length + ch.length + t.length <= l.length:=by omega
    have HO:Hid (up stop lit lit l = (up stop lit lit t).map fun x=>((out ++ ch) ++ x.1,x.2)):=Zz (HR.o.says.trans (by
     rw [hc.eq,up_chunk stop hst lit lit t ch hc.high,Option.map_map];congr 1;funext x;simp))
    clear r1 r2 r3 r4 hne hc hqe;go_wp2_with fail;refine HT.o.mono ?_;rintro e w1 ⟨rfl,hs1⟩;have HS1:=Zz (HR.o.step.trans hs1);have HB1:=Zz (HR.o.bld.grown hs1.grown hlt);have HE1:=Zz (HR.o.env.step hs1 hrb);have HZ1:w.heap.size <= w1.heap.size:=HS1.o.grown.size;clear c0 c1 f0 f1 hs1 HT HR;obtain ⟨c0,c1,f0,f1,_⟩:=HS1.o.at';have e1:((c:Int) == (stop.toNat:Int)) = false:=by rw [Zb];omega
    have e2:((c:Int) == 92) = false:=by rw [Zb];omega
    have e3:((c:Int) == 10) = false:=by rw [Zb];omega
    have e4:((c:Int) == 13) = false:=by rw [Zb];omega
    cases lit
    all_goals
     go_wp2_with fail;refine (writeRune_calls _ _ out c (by omega) _ HB1.o (by omega) HZ1).mono ?_;rintro e w8 ⟨⟨v8,rfl⟩,hb8,hbel8⟩;have HR8:Hid (Rnd w w8 rb l t (out ++ ch) stop _):=Zz ⟨HS1.o.belowB hbel8 hlt,HC.o.enc ▸ hb8,HE1.o.belowB hbel8 hlow,HC.o.rest,by simp;omega,HO.o⟩;clear hb8 hbel8;go_wp2;go_roundg (t.length + 1)
     case measure=>have:=hNt.o;omega
     case rel=>exact ⟨t,_,Zz rfl,HR8⟩
end Prg
namespace Prg
open Go.RowKit Go.Lib B Rd Utf TermPure LinesPure Tx Env Bld
theorem valid_tail (b:UInt8) (t:List UInt8) (hb:b.toNat < 128) (hv:validD (b :: t) = true):validD t = true:=by
 have h:=validD_step (b :: t) (by simp);rw [decodeL_ascii b t hb] at h;rw [hv] at h;dsimp only at h;rw [if_neg (by rintro ⟨h1,_⟩;omega)] at h;simpa using h.symm
theorem valid_dropWhile (p:UInt8 -> Bool) (hp:∀ b:UInt8,128 <= b.toNat -> p b = false):∀ l:List UInt8,validD l = true -> validD (l.dropWhile p) = true
 | [],h=>h
 | b :: t,h=>by
  rw [List.dropWhile_cons]
  by_cases hb:b.toNat < 128
  ·
   cases hpb:p b with
   | true=>exact valid_dropWhile p hp t (valid_tail b t hb h)
   | false=>exact h
  ·
   rw [hp b (by omega)]
   exact h
theorem valid_drop (p:List UInt8) (hp:∀ b ∈ p,b.toNat < 128):∀ l:List UInt8,p.isPrefixOf l = true -> validD l = true -> validD (l.drop p.length) = true:=by
 induction p with
 | nil=>intro l _ h;simpa using h
 | cons c p ih =>
  intro l h hv;cases l with
  | nil=>cases h
  | cons b t =>
   rw [List.isPrefixOf,Bool.and_eq_true,beq_iff_eq] at h;obtain ⟨rfl,h⟩:=h;exact ih (fun x hx=>hp x (by simp [hx])) t h (valid_tail c t (hp c (by simp)) hv)
theorem inRun_high (d:Bool) (b:UInt8) (h:128 <= b.toNat):inRun d b = false:=by
 unfold inRun alnum;have:(b == 45) = false:=by rw [Zb];intro e;rw [e] at h;exact absurd h (by decide)
 rw [this];simp;omega
theorem blank_high (b:UInt8) (h:128 <= b.toNat):LinesPure.blank b = false:=by
 unfold LinesPure.blank;rw [Bool.or_eq_false_iff,Zb,Zb];exact ⟨fun e=>by rw [e] at h;exact absurd h (by decide),fun e=>by rw [e] at h;exact absurd h (by decide)⟩
theorem run_valid (d:Bool) (l:List UInt8) (h:validD l = true):validD (run d l).2 = true:=valid_dropWhile _ (inRun_high d) l h
theorem blanks_valid (l:List UInt8) (h:validD l = true):validD (blanks l) = true:=valid_dropWhile _ blank_high l h
theorem take_while (p:UInt8 -> Bool) (l:List UInt8):l.take (l.length - (l.dropWhile p).length) = l.takeWhile p:=by
 have h:=List.takeWhile_append_dropWhile (p:=p) (l:=l);have hl:=congrArg List.length h;rw [Zl] at hl;have:l.length - (l.dropWhile p).length = (l.takeWhile p).length:=by omega
 rw [this]
 conv=>lhs;arg 2;rw [<- h]
 rw [List.take_left']
 try rfl
theorem run_ascii (d:Bool) (l:List UInt8):∀ b ∈ (run d l).1,b.toNat < 128:=by
 intro b hb;have:=List.all_eq_true.1 (List.all_takeWhile (p:=inRun d) (l:=l)) b hb;by_cases h:b.toNat < 128
 ·
  exact h
 ·
  rw [inRun_high d b (by omega)] at this;cases this
def Tells (g:Nat) (d:Bool):Prop:=(∀ args w,(callFunc g args).run Tryz.prog w = .ok (.enter g args) w)/\∃ p:Nat -> Bool,(∀ c,128 <= c -> p c = false)/\(∀ b:UInt8,p b.toNat = inRun d b)/\∀ w,PredGrows Tryz.prog g #[] p w
theorem tells_plain:Tells 164 false:=by
 refine ⟨enters_of func164 (by kernel_rfl) rfl,alnum,?_,?_,?_⟩
 ·
  intro c h;unfold alnum;simp;omega
 ·
  intro b;simp [inRun]
 ·
  intro w W x hx hb;exact (plain_calls x hx W).mono fun e w' ⟨h1,h2⟩=>⟨h1,h2 ▸ bR _ _⟩
theorem dash_calls (c:Nat) (h1:c <= 1114111) (w:World) :
  Calls Tryz.prog 209 #[.int .i32 (c:Int)] w fun e w'=>e = .returned (.bool (alnum c || ((c:Int) == 45)))/\w = w':=by
 go_enter func209,ntmps209;go_wp2_with fail;refine (plain_calls c h1 _).mono ?_;rintro e w1 ⟨rfl,rfl⟩;generalize hq:alnum c = q;have HQ:=Zz hq;clear hq;cases q
 ·
  go_wp2;go_ret;exact ⟨ret_bool (by rw [HQ.o];rfl),rfl⟩
 ·
  go_wp2;go_ret;exact ⟨ret_bool (by rw [HQ.o];rfl),rfl⟩
theorem tells_dash:Tells 209 true:=by
 refine ⟨enters_of func209 (by kernel_rfl) rfl,fun c=>alnum c || ((c:Int) == 45),?_,?_,?_⟩
 ·
  intro c h;have:((c:Int) == 45) = false:=by rw [Zb];omega
  unfold alnum;simp [this];omega
 ·
  intro b;show (alnum b.toNat || ((b.toNat:Int) == 45)) = inRun true b;unfold inRun;rw [Bool.true_and];congr 1;rw [Bool.eq_iff_iff,beq_iff_eq,beq_iff_eq];constructor
  ·
   intro h;exact UInt8.toNat_inj.1 (by show b.toNat = 45;omega)
  ·
   rintro rfl;rfl
 ·
  intro w W x hx hb;exact (dash_calls x hx W).mono fun e w' ⟨h1,h2⟩=>⟨h1,h2 ▸ bR _ _⟩
theorem while_calls (rb:Nat) (l:List UInt8) (g:Nat) (d:Bool) (hg:Tells g d) (w:World) (h:At w rb l false) :
  Calls Tryz.prog 163 #[.pointer (some ⟨rb,0,none⟩),.func (.func g) #[] #[]] w fun e w'=>e = .returned (.string (mkS (run d l).1))/\Step w w' rb (run d l).2 false:=by
 obtain ⟨eg,p,hp1,hp2,hp3⟩:=hg;have HS:=Zz (Step.refl h);have hlen:=h.len;have hT:∀ W,Calls Tryz.prog 207 #[.string (mkS l),.func (.func g) #[] #[]] W fun e w'=>e = .returned (.string (mkS (run d l).2))/\Below W.heap.size W w':=fun W=>by
  refine (Tryz.strings_TrimLeftFunc_grows g #[] eg p (mkS l) W (hp3 W)).mono ?_;rintro e w' ⟨h1,h2⟩;refine ⟨?_,h2⟩
  rw [h1,trimF_eq p hp1 l];unfold run;congr 3;congr 1;funext b;exact hp2 b
 have HT:=Zz hT;have hr2:(run d l).2.length <= l.length:=List.Sublist.length_le (List.dropWhile_sublist _);have HX:Hid ((mkS l).extract 0 (l.length - (run d l).2.length) = mkS (run d l).1):=Zz (by
  rw [mkS_extract,List.drop_zero,Nat.sub_zero];exact congrArg mkS (take_while (inRun d) l))
 clear hT eg hp1 hp2 hp3;generalize (run d l).2 = q at *;generalize (run d l).1 = u at *;obtain ⟨c0,c1,f0,f1,_⟩:=h;have zl:=mkS_size l;have zq:=mkS_size q;go_enter func163,ntmps163;go_wp2_with fail;refine (HT.o _).mono ?_;rintro e w1 ⟨rfl,hb1⟩;have HS1:=Zz (HS.o.below hb1);clear c0 c1 f0 f1 hb1 HT;obtain ⟨c0,c1,f0,f1,_⟩:=HS1.o.at';have hw1:IntKind.i64.wrap ((l.length:Int) - (q.length:Int)) = (l.length:Int) - (q.length:Int):=IntWalk.i64_in _ (by omega);have hw2:(0:Int) <= (l.length:Int) - (q.length:Int):=by omega
 have hw3:((l.length:Int) - (q.length:Int)).toNat = l.length - q.length:=by omega
 have hw4:(l.length:Int) - (q.length:Int) <= (l.length:Int):=by omega
 have hw5:(q.length:Int) <= (l.length:Int):=by omega
 go_wp2;go_quiet (fail);go_wp2;go_ret;exact ⟨(ret_str HX.o:Ending.returned (.string ((mkS l).extract 0 (l.length - q.length))) = .returned (.string (mkS u))),(HS1.o.below (bel_drewN (bR _ _) _)).set0 (by omega)⟩
end Prg
namespace LineEq
open Go.Lib B Utf TermPure LinesPure
theorem rune_mem:∀ (n:Nat) (l:List UInt8),l.length <= n -> validD l = true -> ∀ b ∈ l,b.toNat < 128 -> b.toNat ∈ runes l
 | n,[],_,_,b,hb,_=>by cases hb
 | 0,c :: l,h,_,_,_,_=>by simp at h
 | n + 1,c :: l,h,hv,b,hb,hlt=>by
  simp at h
  rcases Utf.step (c :: l) (by simp) hv with ⟨b',t,e,hb',hd,ht⟩ | ⟨ch,t,x,hc⟩
  ·
   cases e
   rw [runes_ascii c l hb']
   rcases List.mem_cons.1 hb with rfl | hb
   ·
    simp
   ·
    exact List.mem_cons_of_mem _ (rune_mem n l h ht b hb hlt)
  ·
   rw [runes_chunk hc]
   rw [hc.eq] at hb
   rcases Zk.1 hb with hb | hb
   ·
    have:=hc.high b hb;omega
   ·
    have hl:=congrArg List.length hc.eq
    rw [Zl,Zc] at hl
    have:=hc.two
    exact List.mem_cons_of_mem _ (rune_mem n t (by omega) hc.rest b hb hlt)
end LineEq
namespace Round
open Go.Lib B Utf TermPure LinesPure
theorem decode_front {l ch t:List UInt8} {c:Nat} (h:Chunk l ch t c) (r:List UInt8):decodeL (ch ++ r) = (c,ch.length):=by
 have g:∀ i,i < ch.length -> (ch ++ r).getD i 0 = (ch ++ t).getD i 0:=fun i hi=>by
  rw [List.getD_eq_getElem?_getD,List.getD_eq_getElem?_getD,List.getElem?_append_left hi,List.getElem?_append_left hi]
 have hd:=h.dec;have h2:=h.two;have h4:=h.four;have hge:=h.ge;rw [h.eq,decodeL_N] at hd;rw [decodeL_N,Zl];have sh:=decodeN_shape (ch ++ t).length ((ch ++ t).getD 0 0).toNat ((ch ++ t).getD 1 0).toNat ((ch ++ t).getD 2 0).toNat ((ch ++ t).getD 3 0).toNat;rw [hd] at sh;rcases sh with ⟨c1,e⟩ | ⟨c1,c2,c3,cv,e⟩ | ⟨c1,c2,c3,c4,cv,cs,e⟩ | ⟨c1,c2,c3,c4,c5,cv,cw,e⟩ | e
 ·
  simp only [Prod.mk.injEq] at e;omega
 ·
  simp only [Prod.mk.injEq] at e;rw [g 0 (by omega),g 1 (by omega)];rw [e.1,e.2];generalize ((ch ++ t).getD 0 0).toNat = b0 at *;generalize ((ch ++ t).getD 1 0).toNat = b1 at *;unfold decodeN;rw [if_neg (by omega),if_pos (by omega),if_pos (by omega)]
 ·
  simp only [Prod.mk.injEq] at e;rw [g 0 (by omega),g 1 (by omega),g 2 (by omega)];rw [e.1,e.2];generalize ((ch ++ t).getD 0 0).toNat = b0 at *;generalize ((ch ++ t).getD 1 0).toNat = b1 at *;generalize ((ch ++ t).getD 2 0).toNat = b2 at *;unfold decodeN;rw [if_neg (by omega),if_neg (by omega),if_pos (by omega),if_pos (by omega)]
 ·
  simp only [Prod.mk.injEq] at e;rw [g 0 (by omega),g 1 (by omega),g 2 (by omega),g 3 (by omega)];rw [e.1,e.2];generalize ((ch ++ t).getD 0 0).toNat = b0 at *;generalize ((ch ++ t).getD 1 0).toNat = b1 at *;generalize ((ch ++ t).getD 2 0).toNat = b2 at *;generalize ((ch ++ t).getD 3 0).toNat = b3 at *;unfold decodeN;rw [if_neg (by omega),if_neg (by omega),if_neg (by omega),if_pos (by omega),if_pos (by omega)]
 ·
  simp only [Prod.mk.injEq] at e;omega
theorem valid_front {l ch t:List UInt8} {c:Nat} (h:Chunk l ch t c) (r:List UInt8):validD (ch ++ r) = validD r:=by
 have hne:ch ++ r ≠ []:=by
  have h2:=h.two;intro e;have h3:=congrArg List.length e;rw [Zl,List.length_nil] at h3;omega
 rw [validD_step _ hne,decode_front h r,if_neg (by have:=h.two;dsimp only;omega)];dsimp only;rw [List.drop_left]
theorem valid_app:∀ (n:Nat) (a b:List UInt8),a.length <= n -> validD a = true -> validD b = true -> validD (a ++ b) = true
 | _,[],b,_,_,hb=>hb
 | 0,x :: a,b,h,_,_=>by simp at h
 | n + 1,x :: a,b,h,ha,hb=>by
  simp at h
  rcases Utf.step (x :: a) (by simp) ha with ⟨b',t,e,hb',hd,ht⟩ | ⟨ch,t,c,hc⟩
  ·
   cases e
   rw [List.cons_append,validD_cons x _ hb']
   exact valid_app n a b h ht hb
  ·
   have hl:=congrArg List.length hc.eq
   rw [Zl] at hl
   simp at hl
   have:=hc.two
   rw [hc.eq,Za,valid_front hc]
   exact valid_app n t b (by omega) hc.rest hb
theorem valid_append {a b:List UInt8} (ha:validD a = true) (hb:validD b = true):validD (a ++ b) = true:=valid_app a.length a b (lR _) ha hb
theorem valid_low {a:List UInt8} (h:∀ b ∈ a,b.toNat < 128):validD a = true:=by
 rw [validD_ascii a.length a (fun b hb=>h b (List.mem_of_mem_take hb)),List.drop_length]
 try rfl
theorem escB_high (b:UInt8) (h:128 <= b.toNat):escB b = [b]:=by
 unfold escB;have ne:∀ k:UInt8,k.toNat < 128 -> b ≠ k:=fun k hk e=>by rw [e] at h;omega
 rw [if_neg (ne 34 (by decide)),if_neg (ne 92 (by decide)),if_neg (ne 10 (by decide)),if_neg (ne 13 (by decide)),if_neg (ne 9 (by decide)),if_neg (ne 8 (by decide)),if_neg (ne 12 (by decide)),if_neg (by omega)]
theorem esc_low_all:∀ k:Fin 128,∀ x ∈ escB (UInt8.ofNat k.val),x.toNat < 128:=by decide +kernel
theorem byte_eq (b:UInt8) (h:b.toNat < 128):∃ k:Fin 128,b = UInt8.ofNat k.val:=⟨⟨b.toNat,h⟩,by simp⟩
theorem escB_low (b:UInt8) (h:b.toNat < 128):∀ x ∈ escB b,x.toNat < 128:=by
 obtain ⟨k,rfl⟩:=byte_eq b h;exact esc_low_all k
theorem flat_high:∀ l:List UInt8,(∀ b ∈ l,128 <= b.toNat) -> l.flatMap escB = l
 | [],_=>rfl
 | b :: l,h=>by
  rw [List.flatMap_cons,escB_high b (h b (by simp)),flat_high l (fun x hx=>h x (by simp [hx]))]
  try rfl
theorem valid_esc:∀ (n:Nat) (s:List UInt8),s.length <= n -> validD s = true -> validD (s.flatMap escB) = true
 | _,[],_,_=>rfl
 | 0,x :: a,h,_=>by simp at h
 | n + 1,x :: a,h,ha=>by
  simp at h
  rcases Utf.step (x :: a) (by simp) ha with ⟨b',t,e,hb',hd,ht⟩ | ⟨ch,t,c,hc⟩
  ·
   cases e
   rw [List.flatMap_cons]
   exact valid_append (valid_low (escB_low x hb')) (valid_esc n a h ht)
  ·
   have hl:=congrArg List.length hc.eq
   rw [Zl] at hl
   simp at hl
   have:=hc.two
   rw [hc.eq,List.flatMap_append,flat_high ch hc.high,valid_front hc]
   exact valid_esc n t (by omega) hc.rest
def Reads (b:UInt8):Prop:=∀ (nl:Bool) (r:List UInt8),up 34 true nl (escB b ++ r) = (up 34 true nl r).map fun x=>(b :: x.1,x.2)
theorem reads_esc (b c:UInt8) (h:escB b = [92,c]) (h1:c ≠ 117) (h2:c ≠ 85) (he:escV c = some b):Reads b:=by
 intro nl r;rw [h];show up 34 true nl (92 :: c :: r) = _;rw [up_esc 34 true nl 92 (c :: r) [b] r (by decide) rfl (by rw [esc,if_neg h1,if_neg h2,if_pos rfl,he])]
 try rfl
theorem hex_all:∀ k:Fin 128,hexV (hexD (k.val / 16)) = some (k.val / 16)/\hexV (hexD (k.val % 16)) = some (k.val % 16)/\Lib.validRune ((k.val:Nat):Int) = true/\encodeRune ((k.val:Nat):Int) = [UInt8.ofNat k.val]:=by decide +kernel
theorem reads_hex (b:UInt8) (hb:b.toNat < 128) (h:escB b = [92,117,48,48,hexD (b.toNat / 16),hexD (b.toNat % 16)]):Reads b:=by
 intro nl r;obtain ⟨h1,h2,h3,h4⟩:=hex_all ⟨b.toNat,hb⟩;dsimp only at h1 h2 h3 h4;rw [h];show up 34 true nl (92 :: 117 :: 48 :: 48 :: hexD (b.toNat / 16) :: hexD (b.toNat % 16) :: r) = _;have hx:hexGo 4 0 (48 :: 48 :: hexD (b.toNat / 16) :: hexD (b.toNat % 16) :: r) = some (b.toNat,r):=by
  rw [hexGo,show hexV 48 = some 0 from rfl];dsimp only;rw [hexGo,show hexV 48 = some 0 from rfl];dsimp only;rw [hexGo,h1];dsimp only;rw [hexGo,h2];dsimp only;rw [hexGo];exact congrArg (fun x=>some (x,r)) (by omega)
 rw [up_esc 34 true nl 92 _ [b] r (by decide) rfl (by rw [esc,if_pos rfl,hx,rune,if_pos h3,h4];simp)]
 try rfl
theorem reads_all (b:UInt8):Reads b:=by
 by_cases h1:b = 34
 ·
  subst h1;exact reads_esc _ 34 rfl (by decide) (by decide) rfl
 by_cases h2:b = 92
 ·
  subst h2;exact reads_esc _ 92 rfl (by decide) (by decide) rfl
 by_cases h3:b = 10
 ·
  subst h3;exact reads_esc _ 110 rfl (by decide) (by decide) rfl
 by_cases h4:b = 13
 ·
  subst h4;exact reads_esc _ 114 rfl (by decide) (by decide) rfl
 by_cases h5:b = 9
 ·
  subst h5;exact reads_esc _ 116 rfl (by decide) (by decide) rfl
 by_cases h6:b = 8
 ·
  subst h6;exact reads_esc _ 98 rfl (by decide) (by decide) rfl
 by_cases h7:b = 12
 ·
  subst h7;exact reads_esc _ 102 rfl (by decide) (by decide) rfl
 by_cases h8:b.toNat < 32 \/ b.toNat = 127
 ·
  exact reads_hex b (by omega) (by unfold escB;rw [if_neg h1,if_neg h2,if_neg h3,if_neg h4,if_neg h5,if_neg h6,if_neg h7,if_pos h8])
 ·
  intro nl r;have:escB b = [b]:=by unfold escB;rw [if_neg h1,if_neg h2,if_neg h3,if_neg h4,if_neg h5,if_neg h6,if_neg h7,if_neg h8]
  rw [this];exact up_other 34 true nl b r h1 h2 (fun h=>h.2.elim h3 h4)
theorem up_flat (nl:Bool) (r:List UInt8):∀ s:List UInt8,up 34 true nl (s.flatMap escB ++ 34 :: r) = some (s,r)
 | []=>up_stop 34 true nl r
 | b :: s=>by
  rw [List.flatMap_cons,Za,reads_all b nl,up_flat nl r s]
  try rfl
theorem iri_bytes {s:List UInt8} (h:isIRI s = true):∀ b ∈ s,b.toNat < 128 -> iriRune b.toNat = true:=by
 unfold isIRI at h;simp only [Bool.and_eq_true,decide_eq_true_eq,List.all_eq_true] at h;intro b hb hlt;exact h.2.2.2 _ (LineEq.rune_mem s.length s (lR _) h.2.2.1 b hb hlt)
theorem iri_valid {s:List UInt8} (h:isIRI s = true):validD s = true:=by
 unfold isIRI at h;simp only [Bool.and_eq_true,decide_eq_true_eq] at h;exact h.2.2.1
theorem up_plain (stop:UInt8) (lit nl:Bool) (r:List UInt8):∀ s:List UInt8,(∀ b ∈ s,b ≠ stop/\b ≠ 92/\b ≠ 10/\b ≠ 13) -> up stop lit nl (s ++ stop :: r) = some (s,r)
 | [],_=>up_stop stop lit nl r
 | b :: s,h=>by
  obtain ⟨h1,h2,h3,h4⟩:=h b (by simp)
  rw [List.cons_append,up_other stop lit nl b _ h1 h2 (fun h=>h.2.elim h3 h4),up_plain stop lit nl r s (fun x hx=>h x (by simp [hx]))]
  try rfl
theorem up_iri {s:List UInt8} (h:isIRI s = true) (nl:Bool) (r:List UInt8):up 62 false nl (s ++ 62 :: r) = some (s,r):=by
 refine up_plain 62 false nl r s fun b hb=>?_
 have hi:=iri_bytes h b hb;refine ⟨?_,?_,?_,?_⟩
 all_goals
  intro e;subst e;exact absurd (hi (by decide)) (by decide)
theorem run_all (dash:Bool) (s:List UInt8) (b:UInt8) (r:List UInt8) (h:∀ x ∈ s,inRun dash x = true) (hb:inRun dash b = false):LinesPure.run dash (s ++ b :: r) = (s,b :: r):=by
 unfold LinesPure.run;rw [List.takeWhile_append_of_pos h,List.dropWhile_append_of_pos h,List.takeWhile_cons,List.dropWhile_cons,hb];simp
theorem label_bytes {s:List UInt8} (h:isLabel s = true):∀ b ∈ s,alnum b.toNat = true:=by
 unfold isLabel at h;simp only [Bool.and_eq_true,decide_eq_true_eq,List.all_eq_true] at h;exact h.2.2
theorem lang_bytes:∀ (s:List UInt8) (later:Bool) (n:Nat),langGo later n s = true -> ∀ b ∈ s,b = 45 \/ (97 <= b.toNat/\b.toNat <= 122) \/ (48 <= b.toNat/\b.toNat <= 57)
 | [],_,_,_,b,hb=>by cases hb
 | x :: s,later,n,h,b,hb=>by
  rw [langGo] at h
  by_cases h1:x = 45
  ·
   rw [if_pos h1] at h
   simp only [Bool.and_eq_true] at h
   rcases List.mem_cons.1 hb with rfl | hb
   ·
    exact .inl h1
   ·
    exact lang_bytes s _ _ h.2 b hb
  ·
   rw [if_neg h1] at h
   split at h
   ·
    rename_i hc
    simp only [Bool.and_eq_true] at h
    rcases List.mem_cons.1 hb with rfl | hb
    ·
     simp only [Bool.or_eq_true,Bool.and_eq_true,decide_eq_true_eq] at hc
     rcases hc with hc | hc
     ·
      exact .inr (.inl hc)
     ·
      exact .inr (.inr hc.2)
    ·
     exact lang_bytes s _ _ h.2 b hb
   ·
    cases h
theorem lower_same:∀ s:List UInt8,(∀ b ∈ s,¬ (65 <= b.toNat/\b.toNat <= 90)) -> toLowerA s = s
 | [],_=>rfl
 | b :: s,h=>by
  have h1:=h b (by simp)
  have ih:=lower_same s (fun x hx=>h x (by simp [hx]))
  unfold toLowerA at *
  rw [List.map_cons,ih]
  congr 1
  unfold lowerB
  rw [if_neg]
  intro hc
  unfold isUpperB at hc
  simp only [Bool.and_eq_true,decide_eq_true_eq,UInt8.le_iff_toNat_le] at hc
  exact h1 hc
structure Spells (x:List UInt8) (t:Term):Prop where
 valid:validD x = true
 head:∃ b r,x = b :: r/\LinesPure.blank b = false/\b ≠ 35
 reads:∀ b r,LinesPure.blank b = true -> LinesPure.rawTerm false (x ++ b :: r) = some (t,b :: r)
theorem blank_run (b:UInt8) (h:LinesPure.blank b = true) (dash:Bool):LinesPure.inRun dash b = false:=by
 unfold LinesPure.blank at h;simp only [Bool.or_eq_true,beq_iff_eq] at h;rcases h with rfl | rfl <;> cases dash <;> rfl
theorem blank_not (b:UInt8) (h:LinesPure.blank b = true) (c:UInt8) (hc:LinesPure.blank c = false) (l r:List UInt8):(c :: l).isPrefixOf (b :: r) = false:=by
 have:(c == b) = false:=by rw [Zb];intro e;subst e;rw [h] at hc;cases hc
 simp [List.isPrefixOf,this]
theorem literal_reads {s x:List UInt8} {k:Int} {e tail:List UInt8} (hu:∀ r,up 34 true true (x ++ 34 :: r) = some (s,r)) (b:UInt8) (r:List UInt8) (hb:LinesPure.blank b = true)
  (h:(k = 3/\e = []/\tail = []) \/ (k = 4/\isLang e = true/\tail = 64 :: e) \/ (k = 5/\isIRI e = true/\tail = 94 :: 94 :: 60 :: (e ++ [62]))) :
  LinesPure.rawTerm false (34 :: (x ++ 34 :: tail) ++ b :: r) = some (⟨k,s,e⟩,b :: r):=by
 rw [rawTerm,if_neg (by simp [List.isPrefixOf]),if_neg (by simp [List.isPrefixOf]),if_pos (by simp [List.isPrefixOf])];have e0:((34 :: (x ++ 34 :: tail) ++ b :: r:List UInt8).drop 1) = x ++ 34 :: (tail ++ b :: r):=by simp
 rw [e0,literal,hu];dsimp only;rcases h with ⟨rfl,rfl,rfl⟩ | ⟨rfl,he,rfl⟩ | ⟨rfl,he,rfl⟩
 ·
  rw [Zf,blank_not b hb 64 (by decide),blank_not b hb 94 (by decide)]
  try rfl
 ·
  rw [show [64].isPrefixOf (64 :: e ++ b :: r:List UInt8) = true from by simp [List.isPrefixOf],if_pos rfl];have hl:∀ c ∈ e,c = 45 \/ (97 <= c.toNat/\c.toNat <= 122) \/ (48 <= c.toNat/\c.toNat <= 57):=lang_bytes e false 0 (by unfold isLang at he;simp only [Bool.and_eq_true] at he;exact he.1);have e1:((64 :: e ++ b :: r:List UInt8).drop 1) = e ++ b :: r:=rfl;rw [e1,run_all true e b r ?_ (blank_run b hb true)]
  ·
   dsimp only;rw [lower_same e ?_];intro c hc h;rcases hl c hc with rfl | h' | h'
   ·
    exact absurd h (by decide)
   ·
    omega
   ·
    omega
  ·
   intro c hc;unfold inRun alnum;rcases hl c hc with rfl | h' | h'
   ·
    rfl
   ·
    simp [h']
   ·
    simp [h']
 ·
  rw [show [64].isPrefixOf (94 :: 94 :: 60 :: (e ++ [62]) ++ b :: r:List UInt8) = false from by simp [List.isPrefixOf],if_neg (by simp),show [94,94].isPrefixOf (94 :: 94 :: 60 :: (e ++ [62]) ++ b :: r:List UInt8) = true from by simp [List.isPrefixOf],if_pos rfl];have e1:((94 :: 94 :: 60 :: (e ++ [62]) ++ b :: r:List UInt8).drop 2) = 60 :: (e ++ [62]) ++ b :: r:=rfl;have e2:((94 :: 94 :: 60 :: (e ++ [62]) ++ b :: r:List UInt8).drop 3) = e ++ 62 :: (b :: r):=by simp
  rw [e1,e2,show [60].isPrefixOf (60 :: (e ++ [62]) ++ b :: r:List UInt8) = true from by simp [List.isPrefixOf],if_pos rfl,up_iri he]
  try rfl
theorem iri_reads {s x:List UInt8} (hu:∀ r,up 62 false false (x ++ 62 :: r) = some (s,r)) (b:UInt8) (r:List UInt8):LinesPure.rawTerm false (60 :: (x ++ [62]) ++ b :: r) = some (⟨1,s,[]⟩,b :: r):=by
 rw [rawTerm,if_pos (by simp [List.isPrefixOf])];have e0:((60 :: (x ++ [62]) ++ b :: r:List UInt8).drop 1) = x ++ 62 :: (b :: r):=by simp
 rw [e0,hu]
 try rfl
theorem blank_reads {s:List UInt8} (h:isLabel s = true) (b:UInt8) (r:List UInt8) (hb:LinesPure.blank b = true):LinesPure.rawTerm false (95 :: 58 :: s ++ b :: r) = some (⟨2,s,[]⟩,b :: r):=by
 rw [rawTerm,if_neg (by simp [List.isPrefixOf]),if_pos (by simp [List.isPrefixOf])];have e0:((95 :: 58 :: s ++ b :: r:List UInt8).drop 2) = s ++ b :: r:=rfl;rw [e0,run_all false s b r (fun c hc=>by unfold inRun;rw [label_bytes h c hc];rfl) (blank_run b hb false)]
theorem is_cases {t:Term} (h:is t = true):(t.kind = 1/\isIRI t.text = true/\t.extra = []) \/ (t.kind = 2/\isLabel t.text = true/\t.extra = []) \/ (t.kind = 3/\isText t.text = true/\t.extra = []) \/ (t.kind = 4/\isText t.text = true/\isLang t.extra = true) \/ (t.kind = 5/\isText t.text = true/\isIRI t.extra = true):=by
 unfold TermPure.is at h
 split at h
 ·
  rename_i hk;simp only [Bool.and_eq_true,decide_eq_true_eq] at h;exact .inl ⟨hk,h⟩
 split at h
 ·
  rename_i hk;simp only [Bool.and_eq_true,decide_eq_true_eq] at h;exact .inr (.inl ⟨hk,h⟩)
 split at h
 ·
  rename_i hk;simp only [Bool.and_eq_true,decide_eq_true_eq] at h;exact .inr (.inr (.inl ⟨hk,h⟩))
 split at h
 ·
  rename_i hk;simp only [Bool.and_eq_true] at h;exact .inr (.inr (.inr (.inl ⟨hk,h⟩)))
 split at h
 ·
  rename_i hk;simp only [Bool.and_eq_true] at h;exact .inr (.inr (.inr (.inr ⟨hk,h⟩)))
 ·
  cases h
theorem text_valid {s:List UInt8} (h:isText s = true):validD s = true:=by
 unfold isText at h;simp only [Bool.and_eq_true] at h;exact h.2
theorem lang_valid {s:List UInt8} (h:isLang s = true):validD s = true:=by
 unfold isLang at h;simp only [Bool.and_eq_true] at h;refine valid_low fun b hb=>?_
 rcases lang_bytes s false 0 h.1 b hb with rfl | h' | h'
 ·
  decide
 ·
  omega
 ·
  omega
theorem label_valid {s:List UInt8} (h:isLabel s = true):validD s = true:=by
 refine valid_low fun b hb=>?_
 have:=label_bytes h b hb;unfold alnum at this;simp only [Bool.or_eq_true,Bool.and_eq_true,decide_eq_true_eq] at this;omega
theorem valid_cons (b:UInt8) (hb:b.toNat < 128) {t:List UInt8} (h:validD t = true):validD (b :: t) = true:=by rw [validD_cons b t hb];exact h
theorem valid_quoted {s:List UInt8} (h:validD s = true):validD (TermPure.quoted s) = true:=
 valid_cons 34 (by decide) (valid_append (valid_esc s.length s (lR _) h) (valid_low (a:=[34]) (by decide)))
theorem shown_spells {t:Term} (h:is t = true):Spells (shown t) t:=by
 obtain ⟨k,s,e⟩:=t;have hc:=is_cases h;dsimp only at hc;rcases hc with ⟨rfl,h1,rfl⟩ | ⟨rfl,h1,rfl⟩ | ⟨rfl,h1,rfl⟩ | ⟨rfl,h1,h2⟩ | ⟨rfl,h1,h2⟩
 ·
  refine ⟨valid_cons 60 (by decide) (valid_append (iri_valid h1) (valid_low (by decide))),⟨60,_,rfl,rfl,by decide⟩,fun b r hb=>iri_reads (fun r=>up_iri h1 false r) b r⟩
 ·
  refine ⟨valid_cons 95 (by decide) (valid_cons 58 (by decide) (label_valid h1)),⟨95,_,rfl,rfl,by decide⟩,fun b r hb=>blank_reads h1 b r hb⟩
 ·
  refine ⟨valid_quoted (text_valid h1),⟨34,_,rfl,rfl,by decide⟩,fun b r hb=>literal_reads (tail:=[]) (fun r=>up_flat true r s) b r hb (.inl ⟨rfl,rfl,rfl⟩)⟩
 ·
  refine ⟨valid_append (valid_quoted (text_valid h1)) (valid_cons 64 (by decide) (lang_valid h2)),⟨34,_,rfl,rfl,by decide⟩,fun b r hb=>?_⟩;have:=literal_reads (tail:=64 :: e) (fun r=>up_flat true r s) b r hb (.inr (.inl ⟨rfl,h2,rfl⟩));rw [<- this];congr 1;show (34 :: (s.flatMap escB ++ [34]) ++ 64 :: e) ++ b :: r = _;simp
 ·
  refine ⟨valid_append (valid_quoted (text_valid h1)) (valid_cons 94 (by decide) (valid_cons 94 (by decide) (valid_cons 60 (by decide) (valid_append (iri_valid h2) (valid_low (by decide)))))),⟨34,_,rfl,rfl,by decide⟩,fun b r hb=>?_⟩;have:=literal_reads (tail:=94 :: 94 :: 60 :: (e ++ [62])) (fun r=>up_flat true r s) b r hb (.inr (.inr ⟨rfl,h2,rfl⟩));rw [<- this];congr 1;show (34 :: (s.flatMap escB ++ [34]) ++ 94 :: 94 :: 60 :: (e ++ [62])) ++ b :: r = _;simp
theorem blanks_all (g r:List UInt8) (h:∀ b ∈ g,LinesPure.blank b = true):LinesPure.blanks (g ++ r) = blanks r:=by
 unfold LinesPure.blanks;rw [List.dropWhile_append_of_pos h]
theorem blanks_head (b:UInt8) (r:List UInt8) (h:LinesPure.blank b = false):LinesPure.blanks (b :: r) = b :: r:=by
 unfold LinesPure.blanks;rw [List.dropWhile_cons,h];simp
theorem valid_blanks {g:List UInt8} (h:∀ b ∈ g,LinesPure.blank b = true):validD g = true:=valid_low fun b hb=>by
 have:=h b hb
 unfold LinesPure.blank at this
 simp only [Bool.or_eq_true,beq_iff_eq] at this
 rcases this with rfl | rfl <;> decide
theorem term_spells {x:List UInt8} {t:Term} (h:Spells x t) (ht:is t = true) (g g' r:List UInt8) (hg:∀ b ∈ g,LinesPure.blank b = true) (hg':∀ b ∈ g',LinesPure.blank b = true) (hne:g' ≠ []) :
  LinesPure.term false (LinesPure.blanks (g ++ (x ++ (g' ++ r)))) = some (t,g' ++ r):=by
 obtain ⟨b,x',rfl,hb,_⟩:=h.head;obtain ⟨c,g2,rfl⟩:∃ c g2,g' = c :: g2:=by cases g' with
  | nil=>exact absurd rfl hne
  | cons c g2=>exact ⟨c,g2,rfl⟩
 rw [blanks_all g _ hg,List.cons_append,blanks_head b _ hb];have:=h.reads c (g2 ++ r) (hg' c (by simp));rw [List.cons_append] at this;rw [LinesPure.term,List.cons_append,this];dsimp only;rw [if_pos ht]
theorem lineOf_spells {t:Triple} (ht:isTriple t = true) {x y z:List UInt8} (hx:Spells x t.s) (hy:Spells y t.p) (hz:Spells z t.o) (g1 g2 g3 g4 tail:List UInt8)
  (h1:∀ b ∈ g1,LinesPure.blank b = true) (h2:∀ b ∈ g2,LinesPure.blank b = true) (h3:∀ b ∈ g3,LinesPure.blank b = true) (h4:∀ b ∈ g4,LinesPure.blank b = true) (n2:g2 ≠ []) (n3:g3 ≠ []) (n4:g4 ≠ [])
  (hv:validD tail = true) (ho:LinesPure.over (LinesPure.blanks tail) = true):lineOf false (g1 ++ (x ++ (g2 ++ (y ++ (g3 ++ (z ++ (g4 ++ 46 :: tail))))))) = some (some t):=by
 have hi:=ht;unfold isTriple at hi;simp only [Bool.and_eq_true] at hi;have hval:validD (g1 ++ (x ++ (g2 ++ (y ++ (g3 ++ (z ++ (g4 ++ 46 :: tail))))))) = true:=
  valid_append (valid_blanks h1) (valid_append hx.valid (valid_append (valid_blanks h2) (valid_append hy.valid (valid_append (valid_blanks h3) (valid_append hz.valid (valid_append (valid_blanks h4) (valid_cons 46 (by decide) hv)))))))
 have e1:=term_spells hx hi.1 g1 g2 (y ++ (g3 ++ (z ++ (g4 ++ 46 :: tail)))) h1 h2 n2;have e2:=term_spells hy hi.2.1 g2 g3 (z ++ (g4 ++ 46 :: tail)) h2 h3 n3;have e3:=term_spells hz hi.2.2.1 g3 g4 (46 :: tail) h3 h4 n4;have hnot:LinesPure.over (LinesPure.blanks (g1 ++ (x ++ (g2 ++ (y ++ (g3 ++ (z ++ (g4 ++ 46 :: tail)))))))) = false:=by
  obtain ⟨b,x',rfl,hb,hb2⟩:=hx.head;rw [blanks_all g1 _ h1,List.cons_append,blanks_head b _ hb];unfold LinesPure.over;have:((35:UInt8) == b) = false:=by rw [Zb];exact fun e=>hb2 e.symm
  simp [List.isPrefixOf,this]
 rw [lineOf,if_neg (by rw [hval];simp),if_neg (by rw [hnot];simp),e1];dsimp only;rw [e2];dsimp only;rw [e3];dsimp only;rw [blanks_all g4 _ h4,blanks_head 46 _ (by decide),if_pos ⟨by simp [List.isPrefixOf],by simpa using ho,ht⟩]
def lineT (t:Triple):List UInt8:=shown t.s ++ (32 :: (shown t.p ++ (32 :: (shown t.o ++ [32,46]))))
theorem lineOf_shown {t:Triple} (ht:isTriple t = true):lineOf false (lineT t) = some (some t):=by
 have hi:=ht;unfold isTriple at hi;simp only [Bool.and_eq_true] at hi;have hb:∀ b ∈ ([32]:List UInt8),LinesPure.blank b = true:=by decide
 exact lineOf_spells ht (shown_spells hi.1) (shown_spells hi.2.1) (shown_spells hi.2.2.1) [] [32] [32] [32] [] (by simp) hb hb hb (by simp) (by simp) (by simp) rfl rfl
end Round
namespace SortP
open Go.Lib B Utf TermPure LinesPure Round
def cmpL (a b:List UInt8):Int:=if a < b then -1 else if b < a then 1 else 0
theorem cmpL_zero (a b:List UInt8):cmpL a b = 0 ↔ a = b:=by
 unfold cmpL;constructor
 ·
  intro h
  split at h
  ·
   cases h
  ·
   rename_i h1
   split at h
   ·
    cases h
   ·
    rename_i h2
    exact List.le_antisymm (List.not_lt.1 h2) (List.not_lt.1 h1)
 ·
  rintro rfl;rw [if_neg (List.lt_irrefl a),if_neg (List.lt_irrefl a)]
theorem cmpL_neg (a b:List UInt8):cmpL a b < 0 ↔ a < b:=by
 unfold cmpL
 split
 ·
  rename_i h;exact ⟨fun _=>h,fun _=>by decide⟩
 ·
  rename_i h
  split
  ·
   exact ⟨fun h'=>absurd h' (by decide),fun h'=>absurd h' h⟩
  ·
   exact ⟨fun h'=>absurd h' (by decide),fun h'=>absurd h' h⟩
theorem cmpL_swap (a b:List UInt8):cmpL b a = - cmpL a b:=by
 unfold cmpL;by_cases h1:a < b
 ·
  simp [h1,List.lt_asymm h1]
 ·
  by_cases h2:b < a
  ·
   simp [h1,h2]
  ·
   simp [h1,h2]
theorem cmpL_three (a b:List UInt8):cmpL a b = -1 \/ cmpL a b = 0 \/ cmpL a b = 1:=by
 unfold cmpL
 split
 ·
  exact .inl rfl
 ·
  split
  ·
   exact .inr (.inr rfl)
  ·
   exact .inr (.inl rfl)
def cmpTm (a b:Term):Int:=cmpL (shown a) (shown b)
def orI (x y z:Int):Int:=if x ≠ 0 then x else if y ≠ 0 then y else z
def cmpT (a b:Triple):Int:=orI (cmpTm a.s b.s) (cmpTm a.p b.p) (cmpTm a.o b.o)
def key (a:Triple):List UInt8 × List UInt8 × List UInt8:=(shown a.s,shown a.p,shown a.o)
theorem cmpT_zero (a b:Triple):cmpT a b = 0 ↔ key a = key b:=by
 unfold cmpT orI cmpTm key;have h1:=cmpL_zero (shown a.s) (shown b.s);have h2:=cmpL_zero (shown a.p) (shown b.p);have h3:=cmpL_zero (shown a.o) (shown b.o);simp only [Prod.mk.injEq,<- h1,<- h2,<- h3]
 split
 ·
  omega
 ·
  split <;> omega
theorem cmpT_swap (a b:Triple):cmpT b a = - cmpT a b:=by
 unfold cmpT orI cmpTm;rw [cmpL_swap (shown a.s),cmpL_swap (shown a.p),cmpL_swap (shown a.o)];by_cases h1:cmpL (shown a.s) (shown b.s) = 0
 ·
  by_cases h2:cmpL (shown a.p) (shown b.p) = 0
  ·
   simp [h1,h2]
  ·
   simp [h1,h2]
 ·
  simp [h1]
theorem cmpT_three (a b:Triple):cmpT a b = -1 \/ cmpT a b = 0 \/ cmpT a b = 1:=by
 unfold cmpT orI cmpTm
 split
 ·
  exact cmpL_three _ _
 ·
  split
  ·
   exact cmpL_three _ _
  ·
   exact cmpL_three _ _
def ltT (a b:Triple):Prop:=cmpT a b < 0
instance (a b:Triple):Decidable (ltT a b):=inferInstanceAs (Decidable (cmpT a b < 0))
theorem ltT_iff (a b:Triple):ltT a b ↔ shown a.s < shown b.s \/ (shown a.s = shown b.s/\(shown a.p < shown b.p \/ (shown a.p = shown b.p/\shown a.o < shown b.o))):=by
 unfold ltT cmpT orI cmpTm;have a1:=cmpL_zero (shown a.s) (shown b.s);have a2:=cmpL_zero (shown a.p) (shown b.p);have b1:=cmpL_neg (shown a.s) (shown b.s);have b2:=cmpL_neg (shown a.p) (shown b.p);have b3:=cmpL_neg (shown a.o) (shown b.o);by_cases h1:shown a.s = shown b.s
 ·
  have h1':¬ shown a.s < shown b.s:=by rw [h1];exact List.lt_irrefl _
  rw [if_neg (by simp [a1.2 h1])];by_cases h2:shown a.p = shown b.p
  ·
   have h2':¬ shown a.p < shown b.p:=by rw [h2];exact List.lt_irrefl _
   rw [if_neg (by simp [a2.2 h2]),b3];simp [h1,h2,List.lt_irrefl]
  ·
   rw [if_pos (fun e=>h2 (a2.1 e)),b2];simp [h1,h2,List.lt_irrefl]
 ·
  rw [if_pos (fun e=>h1 (a1.1 e)),b1];simp [h1]
theorem ltT_irrefl (a:Triple):¬ ltT a a:=by
 unfold ltT;rw [(cmpT_zero a a).2 rfl];decide
theorem ltT_trans {a b c:Triple} (h1:ltT a b) (h2:ltT b c):ltT a c:=by
 rw [ltT_iff] at *;rcases h1 with h1 | ⟨e1,h1⟩
 ·
  rcases h2 with h2 | ⟨e2,_⟩
  ·
   exact .inl (List.lt_trans h1 h2)
  ·
   exact .inl (e2 ▸ h1)
 ·
  rcases h2 with h2 | ⟨e2,h2⟩
  ·
   exact .inl (e1 ▸ h2)
  ·
   refine .inr ⟨e1.trans e2,?_⟩;rcases h1 with h1 | ⟨e1,h1⟩
   ·
    rcases h2 with h2 | ⟨e2,_⟩
    ·
     exact .inl (List.lt_trans h1 h2)
    ·
     exact .inl (e2 ▸ h1)
   ·
    rcases h2 with h2 | ⟨e2,h2⟩
    ·
     exact .inl (e1 ▸ h2)
    ·
     exact .inr ⟨e1.trans e2,List.lt_trans h1 h2⟩
theorem ltT_asymm {a b:Triple} (h1:ltT a b):¬ ltT b a:=fun h2=>ltT_irrefl a (ltT_trans h1 h2)
theorem ltT_key {a b c:Triple} (h:key a = key b):(ltT a c ↔ ltT b c)/\(ltT c a ↔ ltT c b):=by
 unfold key at h;simp only [Prod.mk.injEq] at h;obtain ⟨h1,h2,h3⟩:=h;constructor <;> rw [ltT_iff,ltT_iff,h1,h2,h3]
theorem ltT_or (a b:Triple):ltT a b \/ key a = key b \/ ltT b a:=by
 rcases cmpT_three a b with h | h | h
 ·
  left;unfold ltT;rw [h];decide
 ·
  right;left;exact (cmpT_zero a b).1 h
 ·
  right;right;unfold ltT;rw [cmpT_swap,h];decide
theorem le_trans {a b c:Triple} (h1:¬ ltT b a) (h2:¬ ltT c b):¬ ltT c a:=by
 intro h;rcases ltT_or a b with hab | hab | hab
 ·
  exact h2 (ltT_trans h hab)
 ·
  exact h2 ((ltT_key hab).2.1 h)
 ·
  exact h1 hab
theorem shown_inj {a b:Term} (ha:is a = true) (hb:is b = true) (h:shown a = shown b):a = b:=by
 have h1:=(shown_spells ha).reads 32 [] rfl;have h2:=(shown_spells hb).reads 32 [] rfl;rw [h,h2] at h1;cases h1;rfl
theorem key_inj {a b:Triple} (ha:isTriple a = true) (hb:isTriple b = true) (h:key a = key b):a = b:=by
 unfold isTriple at ha hb;simp only [Bool.and_eq_true] at ha hb;unfold key at h;simp only [Prod.mk.injEq] at h;obtain ⟨s,p,o⟩:=a;obtain ⟨s',p',o'⟩:=b;rw [Triple.mk.injEq];exact ⟨shown_inj ha.1 hb.1 h.1,shown_inj ha.2.1 hb.2.1 h.2.1,shown_inj ha.2.2.1 hb.2.2.1 h.2.2⟩
theorem cmpT_eq {a b:Triple} (ha:isTriple a = true) (hb:isTriple b = true):cmpT a b = 0 ↔ a = b:=
 ⟨fun h=>key_inj ha hb ((cmpT_zero a b).1 h),fun h=>(cmpT_zero a b).2 (by rw [h])⟩
abbrev Rise (l:List Triple):Prop:=l.Pairwise ltT
abbrev Valid (l:List Triple):Prop:=∀ t ∈ l,isTriple t = true
theorem rise_eq:∀ {a b:List Triple},Rise a -> Rise b -> (∀ x,x ∈ a ↔ x ∈ b) -> a = b
 | [],[],_,_,_=>rfl
 | [],y :: b,_,_,h=>absurd ((h y).2 (by simp)) (by simp)
 | x :: a,[],_,_,h=>absurd ((h x).1 (by simp)) (by simp)
 | x :: a,y :: b,ha,hb,h=>by
  obtain ⟨ha1,ha2⟩:=List.pairwise_cons.1 ha;obtain ⟨hb1,hb2⟩:=List.pairwise_cons.1 hb;have hxy:x = y:=by
   rcases List.mem_cons.1 ((h x).1 (by simp)) with e | e
   ·
    exact e
   ·
    rcases List.mem_cons.1 ((h y).2 (by simp)) with e' | e'
    ·
     exact e'.symm
    ·
     exact absurd (ha1 y e') (ltT_asymm (hb1 x e))
  subst hxy;congr 1;refine rise_eq ha2 hb2 fun z=>?_
  constructor
  ·
   intro hz;rcases List.mem_cons.1 ((h z).1 (by simp [hz])) with e | e
   ·
    subst e;exact absurd (ha1 z hz) (ltT_irrefl z)
   ·
    exact e
  ·
   intro hz;rcases List.mem_cons.1 ((h z).2 (by simp [hz])) with e | e
   ·
    subst e;exact absurd (hb1 z hz) (ltT_irrefl z)
   ·
    exact e
def putT:List Triple -> Triple -> List Triple
 | [],t=>[t]
 | x :: l,t=>if cmpT x t < 0 then x :: putT l t else if cmpT x t = 0 then x :: l else t :: x :: l
def sortT (l:List Triple):List Triple:=l.foldl putT []
theorem putT_mem:∀ (l:List Triple) (t:Triple),Valid l -> isTriple t = true -> ∀ x,x ∈ putT l t ↔ x = t \/ x ∈ l
 | [],t,_,_,x=>by simp [putT]
 | y :: l,t,hl,ht,x=>by
  have ih:=putT_mem l t (fun z hz=>hl z (by simp [hz])) ht x
  rw [putT]
  split
  ·
   rw [List.mem_cons,ih,List.mem_cons]
   constructor
   ·
    rintro (h | h | h)
    ·
     exact .inr (.inl h)
    ·
     exact .inl h
    ·
     exact .inr (.inr h)
   ·
    rintro (h | h | h)
    ·
     exact .inr (.inl h)
    ·
     exact .inl h
    ·
     exact .inr (.inr h)
  ·
   split
   ·
    rename_i h0
    have:y = t:=(cmpT_eq (hl y (by simp)) ht).1 h0
    subst this
    constructor
    ·
     intro h;exact .inr h
    ·
     rintro (h | h)
     ·
      subst h;simp
     ·
      exact h
   ·
    simp [or_comm,or_left_comm]
theorem putT_rise:∀ (l:List Triple) (t:Triple),Valid l -> isTriple t = true -> Rise l -> Rise (putT l t)
 | [],t,_,_,_=>by simp [putT]
 | y :: l,t,hl,ht,hr=>by
  obtain ⟨h1,h2⟩:=List.pairwise_cons.1 hr;have ih:=putT_rise l t (fun z hz=>hl z (by simp [hz])) ht h2;rw [putT]
  split
  ·
   rename_i h
   refine List.pairwise_cons.2 ⟨fun z hz=>?_,ih⟩;rcases (putT_mem l t (fun z hz=>hl z (by simp [hz])) ht z).1 hz with e | e
   ·
    subst e;exact h
   ·
    exact h1 z e
  ·
   split
   ·
    exact hr
   ·
    rename_i hn h0
    have hty:ltT t y:=by
     rcases ltT_or t y with e | e | e
     ·
      exact e
     ·
      exact absurd ((cmpT_zero y t).2 e.symm) h0
     ·
      exact absurd e hn
    refine List.pairwise_cons.2 ⟨fun z hz=>?_,hr⟩;rcases List.mem_cons.1 hz with e | e
    ·
     subst e;exact hty
    ·
     exact ltT_trans hty (h1 z e)
theorem fold_put:∀ (l acc:List Triple),Valid l -> Valid acc -> Rise acc -> Rise (l.foldl putT acc)/\∀ x,x ∈ l.foldl putT acc ↔ x ∈ acc \/ x ∈ l
 | [],acc,_,_,ha=>⟨ha,fun x=>by simp⟩
 | t :: l,acc,hl,hv,ha=>by
  have ht:=hl t (by simp)
  have hv2:Valid (putT acc t):=fun x hx=>by
   rcases (putT_mem acc t hv ht x).1 hx with e | e
   ·
    subst e;exact ht
   ·
    exact hv x e
  obtain ⟨h1,h2⟩:=fold_put l (putT acc t) (fun z hz=>hl z (by simp [hz])) hv2 (putT_rise acc t hv ht ha)
  refine ⟨h1,fun x=>?_⟩
  rw [List.foldl_cons,h2,putT_mem acc t hv ht,List.mem_cons]
  constructor
  ·
   rintro ((h | h) | h)
   ·
    exact .inr (.inl h)
   ·
    exact .inl h
   ·
    exact .inr (.inr h)
  ·
   rintro (h | h | h)
   ·
    exact .inl (.inr h)
   ·
    exact .inl (.inl h)
   ·
    exact .inr h
theorem sortT_rise {l:List Triple} (h:Valid l):Rise (sortT l):=(fold_put l [] h (fun _ hx=>by cases hx) List.Pairwise.nil).1
theorem sortT_mem {l:List Triple} (h:Valid l) (x:Triple):x ∈ sortT l ↔ x ∈ l:=by
 unfold sortT;rw [(fold_put l [] h (fun _ hx=>by cases hx) List.Pairwise.nil).2 x];simp
theorem sortT_eq {l a:List Triple} (h:Valid l) (hr:Rise a) (hm:∀ x,x ∈ a ↔ x ∈ l):a = sortT l:=
 rise_eq hr (sortT_rise h) fun x=>(hm x).trans (sortT_mem h x).symm
def compactT:List Triple -> List Triple
 | []=>[]
 | x :: l=>x :: (go x l)
where go (x : Triple) : List Triple → List Triple
  | [] => []
  | y :: l => if cmpT y x = 0 then go y l else y :: go y l
theorem compact_go:∀ (l:List Triple) (x:Triple),Valid (x :: l) -> (x :: l).Pairwise (fun a b=>¬ ltT b a) ->
  (∀ z,z ∈ compactT.go x l -> z ∈ l/\ltT x z)/\(∀ z,z ∈ l -> z = x \/ z ∈ compactT.go x l)/\Rise (compactT.go x l)
 | [],x,_,_=>by simp [compactT.go]
 | y :: l,x,hv,hs=>by
  obtain ⟨h1,h2⟩:=List.pairwise_cons.1 hs;have hvx:=hv x (by simp);have hvy:=hv y (by simp);obtain ⟨i1,i2,i3⟩:=compact_go l y (fun z hz=>hv z (List.mem_cons_of_mem _ hz)) h2;rw [compactT.go];by_cases h0:cmpT y x = 0
  ·
   have e:=(cmpT_eq hvy hvx).1 h0;subst e;rw [if_pos h0];refine ⟨fun z hz=>⟨List.mem_cons_of_mem _ (i1 z hz).1,(i1 z hz).2⟩,fun z hz=>?_,i3⟩;rcases List.mem_cons.1 hz with e | e
   ·
    exact .inl e
   ·
    exact i2 z e
  ·
   rw [if_neg h0];have hxy:ltT x y:=by
    rcases ltT_or x y with e | e | e
    ·
     exact e
    ·
     exact absurd ((cmpT_zero y x).2 e.symm) h0
    ·
     exact absurd e (h1 y (by simp))
   refine ⟨fun z hz=>?_,fun z hz=>?_,List.pairwise_cons.2 ⟨fun z hz=>(i1 z hz).2,i3⟩⟩
   ·
    rcases List.mem_cons.1 hz with e | e
    ·
     subst e;exact ⟨by simp,hxy⟩
    ·
     exact ⟨List.mem_cons_of_mem _ (i1 z e).1,ltT_trans hxy (i1 z e).2⟩
   ·
    rcases List.mem_cons.1 hz with e | e
    ·
     subst e;exact .inr (by simp)
    ·
     rcases i2 z e with e | e
     ·
      subst e;exact .inr (by simp)
     ·
      exact .inr (List.mem_cons_of_mem _ e)
theorem compact_sorted {l a:List Triple} (hv:Valid l) (hp:a.Perm l) (hs:a.Pairwise fun x y=>¬ ltT y x):compactT a = sortT l:=by
 refine sortT_eq hv ?_ ?_
 ·
  cases a with
  | nil=>exact List.Pairwise.nil
  | cons x t =>
   obtain ⟨i1,i2,i3⟩:=compact_go t x (fun z hz=>hv z (hp.mem_iff.1 hz)) hs;exact List.pairwise_cons.2 ⟨fun z hz=>(i1 z hz).2,i3⟩
 ·
  intro z;rw [<- hp.mem_iff];cases a with
  | nil=>simp [compactT]
  | cons x t =>
   obtain ⟨i1,i2,i3⟩:=compact_go t x (fun z hz=>hv z (hp.mem_iff.1 hz)) hs;rw [compactT,List.mem_cons,List.mem_cons];constructor
   ·
    rintro (h | h)
    ·
     exact .inl h
    ·
     exact .inr (i1 z h).1
   ·
    rintro (h | h)
    ·
     exact .inl h
    ·
     exact i2 z h
end SortP
namespace OrdG
open Go.Lib TermPure LinesPure SortP Round
structure Ord {α:Type} (lt:α -> α -> Prop) (V:α -> Prop):Prop where
 irrefl:∀ a,¬ lt a a
 trans:∀ a b c,lt a b -> lt b c -> lt a c
 tri:∀ a b,V a -> V b -> lt a b \/ a = b \/ lt b a
section
variable {α : Type} {lt : α → α → Prop} {V : α → Prop}
theorem Ord.uniq (O:Ord lt V):∀ {a b:List α},a.Pairwise lt -> b.Pairwise lt -> (∀ x,x ∈ a ↔ x ∈ b) -> a = b
 | [],[],_,_,_=>rfl
 | [],y :: b,_,_,h=>absurd ((h y).2 (by simp)) (by simp)
 | x :: a,[],_,_,h=>absurd ((h x).1 (by simp)) (by simp)
 | x :: a,y :: b,ha,hb,h=>by
  have ha':=List.pairwise_cons.1 ha;have hb':=List.pairwise_cons.1 hb;have hxy:x = y:=by
   have h1:=(h x).1 (by simp);have h2:=(h y).2 (by simp);rcases List.mem_cons.1 h1 with e | h1
   ·
    exact e
   ·
    rcases List.mem_cons.1 h2 with e | h2
    ·
     exact e.symm
    ·
     exact absurd (O.trans _ _ _ (ha'.1 y h2) (hb'.1 x h1)) (O.irrefl x)
  subst hxy;have:=O.uniq ha'.2 hb'.2 (fun z=>by
   have hz:=h z;simp only [List.mem_cons] at hz;constructor
   ·
    intro hm;rcases hz.1 (.inr hm) with e | h3
    ·
     subst e;exact absurd (ha'.1 z hm) (O.irrefl z)
    ·
     exact h3
   ·
    intro hm;rcases hz.2 (.inr hm) with e | h3
    ·
     subst e;exact absurd (hb'.1 z hm) (O.irrefl z)
    ·
     exact h3)
  rw [this]
variable [DecidableEq α]
def compactE:List α -> List α
 | []=>[]
 | [x]=>[x]
 | x :: y :: l=>if x = y then compactE (y :: l) else x :: compactE (y :: l)
theorem compactE_mem:∀ (l:List α) (x:α),x ∈ compactE l ↔ x ∈ l
 | [],x=>Iff.rfl
 | [y],x=>Iff.rfl
 | y :: z :: l,x=>by
  rw [compactE]
  have ih:=compactE_mem (z :: l) x
  by_cases h:y = z
  ·
   rw [if_pos h,ih,h]
   simp
  ·
   rw [if_neg h,List.mem_cons,ih,List.mem_cons (a:=x) (b:=y)]
theorem compactE_rise (O:Ord lt V):∀ (l:List α),(∀ x ∈ l,V x) -> l.Pairwise (fun a b=>¬ lt b a) -> (compactE l).Pairwise lt
 | [],_,_=>List.Pairwise.nil
 | [x],_,_=>by simp [compactE]
 | x :: y :: l,hv,hp=>by
  have hp':=List.pairwise_cons.1 hp;have ih:=compactE_rise O (y :: l) (fun z hz=>hv z (by simp [List.mem_cons.1 hz])) hp'.2;rw [compactE];by_cases h:x = y
  ·
   rw [if_pos h];exact ih
  ·
   rw [if_neg h,List.pairwise_cons];refine ⟨fun z hz=>?_,ih⟩;rw [compactE_mem] at hz;have hxy:lt x y:=by
    rcases O.tri x y (hv x (by simp)) (hv y (by simp)) with h1 | h1 | h1
    ·
     exact h1
    ·
     exact absurd h1 h
    ·
     exact absurd h1 (hp'.1 y (by simp))
   rcases List.mem_cons.1 hz with rfl | hz
   ·
    exact hxy
   ·
    have hp2:=List.pairwise_cons.1 hp'.2;rcases O.tri y z (hv y (by simp)) (hv z (by simp [hz])) with h1 | h1 | h1
    ·
     exact O.trans _ _ _ hxy h1
    ·
     rw [<- h1];exact hxy
    ·
     exact absurd h1 (hp2.1 z hz)
def putE (ltb:α -> α -> Bool):List α -> α -> List α
 | [],t=>[t]
 | x :: l,t=>if ltb x t = true then x :: putE ltb l t else if x = t then x :: l else t :: x :: l
theorem putE_mem (ltb:α -> α -> Bool):∀ (l:List α) (t x:α),x ∈ putE ltb l t ↔ x = t \/ x ∈ l
 | [],t,x=>by simp [putE]
 | y :: l,t,x=>by
  rw [putE]
  split
  ·
   rw [List.mem_cons,putE_mem ltb l t x,List.mem_cons]
   constructor
   ·
    rintro (h | h | h)
    ·
     exact .inr (.inl h)
    ·
     exact .inl h
    ·
     exact .inr (.inr h)
   ·
    rintro (h | h | h)
    ·
     exact .inr (.inl h)
    ·
     exact .inl h
    ·
     exact .inr (.inr h)
  ·
   split
   ·
    rename_i h
    subst h
    simp
   ·
    simp
theorem putE_rise (O:Ord lt V) (ltb:α -> α -> Bool) (hb:∀ x y,ltb x y = true ↔ lt x y):∀ (l:List α) (t:α),(∀ x ∈ l,V x) -> V t -> l.Pairwise lt -> (putE ltb l t).Pairwise lt
 | [],t,_,_,_=>by simp [putE]
 | y :: l,t,hv,ht,hp=>by
  have hp':=List.pairwise_cons.1 hp;rw [putE]
  split
  ·
   rename_i h
   rw [List.pairwise_cons];refine ⟨fun z hz=>?_,putE_rise O ltb hb l t (fun z hz=>hv z (by simp [hz])) ht hp'.2⟩;rcases (putE_mem ltb l t z).1 hz with rfl | hz
   ·
    exact (hb _ _).1 h
   ·
    exact hp'.1 z hz
  ·
   rename_i h
   split
   ·
    exact hp
   ·
    rename_i hne
    have hty:lt t y:=by
     rcases O.tri t y ht (hv y (by simp)) with h1 | h1 | h1
     ·
      exact h1
     ·
      exact absurd h1.symm hne
     ·
      exact absurd ((hb _ _).2 h1) h
    rw [List.pairwise_cons];refine ⟨fun z hz=>?_,hp⟩;rcases List.mem_cons.1 hz with rfl | hz
    ·
     exact hty
    ·
     exact O.trans _ _ _ hty (hp'.1 z hz)
end
def ltTm (a b:Term):Prop:=shown a < shown b
instance (a b:Term):Decidable (ltTm a b):=inferInstanceAs (Decidable (shown a < shown b))
theorem ord_term:Ord ltTm (fun t=>is t = true):=
 ⟨fun a=>List.lt_irrefl _,fun a b c h1 h2=>List.lt_trans h1 h2,fun a b ha hb=>by
  by_cases h1:shown a < shown b
  ·
   exact .inl h1
  ·
   by_cases h2:shown b < shown a
   ·
    exact .inr (.inr h2)
   ·
    exact .inr (.inl (shown_inj ha hb (List.le_antisymm (List.not_lt.1 h2) (List.not_lt.1 h1))))⟩
theorem cmpTm_lt (a b:Term):cmpTm a b < 0 ↔ ltTm a b:=cmpL_neg _ _
def inTriples (T:List Triple):List Term:=T.flatMap fun t=>[t.s,t.p,t.o]
def termsT (T:List Triple):List Term:=(inTriples T).foldl (putE fun a b=>decide (ltTm a b)) []
theorem foldE (l acc:List Term) (hl:∀ x ∈ l,is x = true) (ha:∀ x ∈ acc,is x = true) (hr:acc.Pairwise ltTm) :
  (l.foldl (putE fun a b=>decide (ltTm a b)) acc).Pairwise ltTm/\∀ x,x ∈ l.foldl (putE fun a b=>decide (ltTm a b)) acc ↔ x ∈ acc \/ x ∈ l:=by
 induction l generalizing acc with
 | nil=>exact ⟨hr,fun x=>by simp⟩
 | cons t l ih =>
  have ht:=hl t (by simp);have h1:∀ x,x ∈ putE (fun a b=>decide (ltTm a b)) acc t ↔ x = t \/ x ∈ acc:=putE_mem _ acc t;obtain ⟨h2,h3⟩:=ih (putE (fun a b=>decide (ltTm a b)) acc t) (fun x hx=>hl x (by simp [hx])) (fun x hx=>((h1 x).1 hx).elim (fun e=>by rw [e];exact ht) (ha x)) (putE_rise ord_term _ (fun x y=>decide_eq_true_iff) acc t ha ht hr);refine ⟨h2,fun x=>?_⟩;rw [List.foldl_cons,h3,h1];simp only [List.mem_cons];constructor
  ·
   rintro ((h | h) | h)
   ·
    exact .inr (.inl h)
   ·
    exact .inl h
   ·
    exact .inr (.inr h)
  ·
   rintro (h | h | h)
   ·
    exact .inl (.inr h)
   ·
    exact .inl (.inl h)
   ·
    exact .inr h
theorem inTriples_is {T:List Triple} (h:Valid T):∀ x ∈ inTriples T,is x = true:=by
 intro x hx;obtain ⟨t,ht,hx⟩:=List.mem_flatMap.1 hx;have:=h t ht;unfold isTriple at this;simp only [Bool.and_eq_true] at this;simp at hx;rcases hx with rfl | rfl | rfl
 ·
  exact this.1
 ·
  exact this.2.1
 ·
  exact this.2.2.1
theorem termsT_rise {T:List Triple} (h:Valid T):(termsT T).Pairwise ltTm:=(foldE _ [] (inTriples_is h) (by simp) List.Pairwise.nil).1
theorem termsT_mem {T:List Triple} (h:Valid T) (x:Term):x ∈ termsT T ↔ x ∈ inTriples T:=by
 rw [termsT,(foldE _ [] (inTriples_is h) (by simp) List.Pairwise.nil).2];simp
theorem termsT_is {T:List Triple} (h:Valid T):∀ x ∈ termsT T,is x = true:=fun x hx=>inTriples_is h x ((termsT_mem h x).1 hx)
theorem compact_terms {T:List Triple} (h:Valid T) {l:List Term} (hp:l.Perm (inTriples T)) (hs:l.Pairwise fun a b=>¬ ltTm b a):compactE l = termsT T:=by
 have hv:∀ x ∈ l,is x = true:=fun x hx=>inTriples_is h x (hp.mem_iff.1 hx)
 refine ord_term.uniq (compactE_rise ord_term l hv hs) (termsT_rise h) (fun x=>?_);rw [compactE_mem,termsT_mem h,hp.mem_iff]
def idOf (l:List Term) (t:Term):Nat:=if t ∈ l then l.idxOf t + 1 else 0
structure Ids where
 a:Nat
 b:Nat
 c:Nat
deriving DecidableEq
def idsOf (l:List Term) (t:Triple):Ids:=⟨idOf l t.s,idOf l t.p,idOf l t.o⟩
def idsT (T:List Triple):List Ids:=T.map (idsOf (termsT T))
def ltI (x y:Ids):Prop:=x.a < y.a \/ (x.a = y.a/\(x.b < y.b \/ (x.b = y.b/\x.c < y.c)))
theorem ord_ids:Ord ltI (fun _=>True):=
 ⟨fun a h=>by unfold ltI at h;omega,fun a b c h1 h2=>by unfold ltI at *;omega,fun a b _ _=>by
  unfold ltI
  by_cases h:a = b
  ·
   exact .inr (.inl h)
  ·
   have:¬ (a.a = b.a/\a.b = b.b/\a.c = b.c):=fun ⟨h1,h2,h3⟩=>h (by cases a;cases b;simp_all)
   omega⟩
theorem idx_lt {l:List Term} (hr:l.Pairwise ltTm) (hv:∀ x ∈ l,is x = true) {x y:Term} (hx:x ∈ l) (hy:y ∈ l):idOf l x < idOf l y ↔ ltTm x y:=by
 unfold idOf;rw [if_pos hx,if_pos hy];have ix:=List.idxOf_lt_length_of_mem hx;have iy:=List.idxOf_lt_length_of_mem hy;have ex:l[l.idxOf x] = x:=List.getElem_idxOf ix;have ey:l[l.idxOf y] = y:=List.getElem_idxOf iy;constructor
 ·
  intro h;have:=List.pairwise_iff_getElem.1 hr (l.idxOf x) (l.idxOf y) ix iy (by omega)
  rwa [ex,ey] at this
 ·
  intro h;by_cases h1:l.idxOf x < l.idxOf y
  ·
   omega
  ·
   rcases Nat.lt_or_eq_of_le (Nat.not_lt.1 h1) with h2 | h2
   ·
    have:=List.pairwise_iff_getElem.1 hr (l.idxOf y) (l.idxOf x) iy ix h2;rw [ex,ey] at this;exact absurd (List.lt_trans h this) (List.lt_irrefl _)
   ·
    have:x = y:=by rw [<- ex,<- ey];congr 1;exact h2.symm
    rw [this] at h;exact absurd h (List.lt_irrefl _)
theorem idx_eq {l:List Term} {x y:Term} (hx:x ∈ l) (hy:y ∈ l):idOf l x = idOf l y ↔ x = y:=by
 constructor
 ·
  intro h;unfold idOf at h;rw [if_pos hx,if_pos hy] at h;have ix:=List.idxOf_lt_length_of_mem hx;have iy:=List.idxOf_lt_length_of_mem hy;have ex:l[l.idxOf x] = x:=List.getElem_idxOf ix;have ey:l[l.idxOf y] = y:=List.getElem_idxOf iy;rw [<- ex,<- ey];congr 1;omega
 ·
  intro h;rw [h]
theorem mem_three {T:List Triple} {t:Triple} (h:t ∈ T):t.s ∈ inTriples T/\t.p ∈ inTriples T/\t.o ∈ inTriples T:=
 ⟨List.mem_flatMap.2 ⟨t,h,by simp⟩,List.mem_flatMap.2 ⟨t,h,by simp⟩,List.mem_flatMap.2 ⟨t,h,by simp⟩⟩
theorem ids_lt {T:List Triple} (hv:Valid T) {x y:Triple} (hx:x ∈ T) (hy:y ∈ T) (h:ltT x y):ltI (idsOf (termsT T) x) (idsOf (termsT T) y):=by
 obtain ⟨x1,x2,x3⟩:=mem_three hx;obtain ⟨y1,y2,y3⟩:=mem_three hy;have hr:=termsT_rise hv;have hi:=termsT_is hv;have m:=fun z=>(termsT_mem hv z).2
 have v:=fun z hz=>inTriples_is hv z hz
 rw [ltT_iff] at h;unfold ltI idsOf;dsimp only;rw [idx_lt hr hi (m _ x1) (m _ y1),idx_lt hr hi (m _ x2) (m _ y2),idx_lt hr hi (m _ x3) (m _ y3),idx_eq (m _ x1) (m _ y1),idx_eq (m _ x2) (m _ y2)];rcases h with h | ⟨e,h | ⟨e2,h⟩⟩
 ·
  exact .inl h
 ·
  exact .inr ⟨shown_inj (v _ x1) (v _ y1) e,.inl h⟩
 ·
  exact .inr ⟨shown_inj (v _ x1) (v _ y1) e,.inr ⟨shown_inj (v _ x2) (v _ y2) e2,h⟩⟩
theorem idsT_rise {T:List Triple} (hv:Valid T) (hr:Rise T):(idsT T).Pairwise ltI:=by
 unfold idsT;rw [List.pairwise_map];exact hr.imp_of_mem fun hx hy h=>ids_lt hv hx hy h
end OrdG
namespace Ref4
open Go.RowKit Go.Lib B Utf TermPure LinesPure
theorem mkS_get (l:List UInt8) (k:Nat) (h:k < (mkS l).size) (h':k < l.length):(mkS l)[k] = l[k]:=rfl
theorem alnum_calls (b:UInt8) (w:World) :
  Calls Tryz.prog 156 #[.int .u8 b.toNat] w fun e w'=>e = .returned (.bool (alnum b.toNat))/\w = w':=by
 have h:=b.toNat_lt;unfold alnum;generalize b.toNat = n at *;go_enter func156,ntmps156;go_wp2
 all_goals go_ret
 all_goals exact ⟨ret_bool (by rw [Bool.eq_iff_iff];simp;omega),rfl⟩
theorem label_calls (l:List UInt8) (hl:l.length <= 140737488355328) (w:World) :
  Calls Tryz.prog 125 #[.string (mkS l)] w fun e w'=>e = .returned (.bool (isLabel l))/\w = w':=by
 have hsz:=mkS_size l;go_enter func125,ntmps125;go_wp2;go_loopw [3] (fun vi wr=>∃ k:Nat,k <= l.length/\vi = .int .i64 k/\wr = w/\Hid ((l.take k).all (fun b=>alnum b.toNat) = true)) (fun vi _=>l.length - (intOf vi).toNat)
 case atStart=>exact ⟨0,by omega,rfl,rfl,Zz rfl⟩
 case round =>
  obtain ⟨k,hk,rfl,rfl,HA⟩:=hrel;by_cases hlt:k < l.length
  ·
   have hd:decide (k < l.length) = true:=dT hlt;have ik:(k:Int) < (l.length:Int):=by omega
   have ik0:(0:Int) <= (k:Int):=by omega
   obtain ⟨b,hb0⟩:∃ b,l[k] = b:=⟨_,rfl⟩;have hks:k < (mkS l).size:=by rw [hsz];exact hlt
   have hg:(mkS l)[k]'hks = b:=(mkS_get l k hks hlt).trans hb0;have hgl:Hid (l.take (k + 1) = l.take k ++ [b]):=Zz (by rw [Zt hlt,hb0]);have HN:Hid (alnum b.toNat = false -> isLabel l = false):=Zz (fun h=>by
    have:(l.all fun b=>alnum b.toNat) = false:=by
     rw [List.all_eq_false];exact ⟨b,by rw [<- hb0];exact Zm hlt,by simp [h]⟩
    rw [isLabel,this];simp)
   clear hb0;go_wp2_with fail;refine (alnum_calls b _).mono ?_;rintro e w1 ⟨rfl,rfl⟩;cases hb:alnum b.toNat with
   | true =>
    go_wp2;go_roundw
    case rel=>exact ⟨k + 1,by omega,by go_num,by first | rfl | trivial,Zz (by rw [hgl.o,List.all_append,HA.o];simp [hb])⟩
    case measure=>simp [intOf];omega
   | false =>
    have HF:=Zz (HN.o hb);go_wp2;go_ret;exact ⟨ret_bool HF.o.symm,rfl⟩
  ·
   obtain rfl:k = l.length:=by omega
   rw [List.take_length] at HA;have HF:Hid (isLabel l = (decide (1 <= l.length) && decide (l.length <= 8))):=Zz (by
    rw [isLabel,HA.o];cases l <;> simp)
   by_cases c1:1 <= l.length
   ·
    have d1:decide ((1:Int) <= (l.length:Int)) = true:=dT (by omega);by_cases c8:l.length <= 8
    ·
     have d8:decide ((l.length:Int) <= 8) = true:=dT (by omega);have HF':=Zz (HF.o.trans (by simp [c1,c8]:_ = true));go_wp2;go_ret;exact ⟨ret_bool HF'.o.symm,rfl⟩
    ·
     have d8:decide ((l.length:Int) <= 8) = false:=dF (by omega);have HF':=Zz (HF.o.trans (by simp [c8]:_ = false));go_wp2;go_ret;exact ⟨ret_bool HF'.o.symm,rfl⟩
   ·
    have d1:decide ((1:Int) <= (l.length:Int)) = false:=dF (by omega);have HF':=Zz (HF.o.trans (by simp [c1]:_ = false));go_wp2;go_ret;exact ⟨ret_bool HF'.o.symm,rfl⟩
theorem iriRune_plain (n:Nat):iriRune n = true ↔ (33 <= n/\n <= 126/\n ≠ 34/\n ≠ 60/\n ≠ 62/\n ≠ 92/\n ≠ 94/\n ≠ 96/\n ≠ 123/\n ≠ 124/\n ≠ 125) \/ 160 <= n:=by
 unfold iriRune odd;simp;omega
theorem iriRune_calls (n:Nat) (hn:n <= 1114111) (w:World) :
  Calls Tryz.prog 155 #[.int .i32 n] w fun e w'=>e = .returned (.bool (iriRune n))/\w = w':=by
 have hp:=Zz (iriRune_plain n);go_enter func155,ntmps155;go_wp2
 all_goals go_ret
 all_goals simp only [beq_iff_eq,Zb,ne_eq,Bool.not_eq_true] at *
 all_goals exact ⟨ret_bool (by rw [Bool.eq_iff_iff,hp.o];simp;omega),by first | rfl | trivial⟩
theorem lang_calls (l:List UInt8) (hl:l.length <= 140737488355328) (w:World) :
  Calls Tryz.prog 126 #[.string (mkS l)] w fun e w'=>e = .returned (.bool (isLang l))/\Below w.heap.size w w':=by
 have hsz:=mkS_size l;go_enter func126,ntmps126;go_wp2;go_loopw [3,4,5] (fun vp vm vi wr=>∃ k p m:Nat,k <= l.length/\vi = .int .i64 k/\vp = .int .i64 p/\vm = .int .i64 m/\p <= k/\m <= 8/\Hid (Below w.heap.size w wr)/\Hid (langGo false 0 l = langGo (decide (0 < p)) m (l.drop k))) (fun _ _ vi _=>l.length - (intOf vi).toNat)
 case atStart=>exact ⟨0,0,0,by omega,rfl,rfl,rfl,by omega,by omega,Zz (bR _ _),Zz (by simp)⟩
 case round =>
  obtain ⟨k,p,m,hk,rfl,rfl,rfl,hpk,hm,HW,HL⟩:=hrel;by_cases hlt:k < l.length
  ·
   have hd:decide (k < l.length) = true:=dT hlt;have ik:(k:Int) < (l.length:Int):=by omega
   have ik0:(0:Int) <= (k:Int):=by omega
   obtain ⟨b,hb0⟩:∃ b,l[k] = b:=⟨_,rfl⟩;have hks:k < (mkS l).size:=by rw [hsz];exact hlt
   have hg:(mkS l)[k]'hks = b:=(mkS_get l k hks hlt).trans hb0;have HD:Hid (l.drop k = b :: l.drop (k + 1)):=Zz (by rw [List.drop_eq_getElem_cons hlt,hb0]);rw [HD.o] at HL;clear hb0 HD;have hbl:=b.toNat_lt;generalize hB:b.toNat = B at *;go_wp2_with fail;go_cut [6,7] (fun v6 v7 wx=>v6 = .bool (decide (97 <= B) && decide (B <= 122))/\v7 = .bool (decide (48 <= B) && decide (B <= 57))/\Hid (Below w.heap.size w wx))
   case first =>
    clear HL hd;by_cases a1:97 <= B
    ·
     have e1:decide (97 <= (B:Int)) = true:=dT (by omega);have e3:decide (48 <= (B:Int)) = true:=dT (by omega);have e4:decide ((B:Int) <= 57) = false:=dF (by omega);by_cases a2:B <= 122
     ·
      have e2:decide ((B:Int) <= 122) = true:=dT (by omega);go_quiet (fail);go_wp2;go_meet;exact ⟨by simp;omega,by simp;omega,Zz (bel_drewN HW.o _)⟩
     ·
      have e2:decide ((B:Int) <= 122) = false:=dF (by omega);go_quiet (fail);go_wp2;go_meet;exact ⟨by simp;omega,by simp;omega,Zz (bel_drewN HW.o _)⟩
    ·
     have e1:decide (97 <= (B:Int)) = false:=dF (by omega);by_cases a3:48 <= B
     ·
      have e3:decide (48 <= (B:Int)) = true:=dT (by omega);by_cases a4:B <= 57
      ·
       have e4:decide ((B:Int) <= 57) = true:=dT (by omega);go_quiet (fail);go_wp2;go_meet;exact ⟨by simp;omega,by simp;omega,Zz (bel_drewN HW.o _)⟩
      ·
       have e4:decide ((B:Int) <= 57) = false:=dF (by omega);go_quiet (fail);go_wp2;go_meet;exact ⟨by simp;omega,by simp;omega,Zz (bel_drewN HW.o _)⟩
     ·
      have e3:decide (48 <= (B:Int)) = false:=dF (by omega);go_quiet (fail);go_wp2;go_meet;exact ⟨by simp;omega,by simp;omega,Zz (bel_drewN HW.o _)⟩
   case rest =>
    obtain ⟨rfl,rfl,HW2⟩:=hcut;have w1:IntKind.i64.wrap ((m:Int) + 1) = ((m + 1:Nat):Int):=by rw [Zw];omega
    have w2:IntKind.i64.wrap ((p:Int) + 1) = ((p + 1:Nat):Int):=by rw [Zw];omega
    have hb45:(b = 45) ↔ B = 45:=by rw [<- hB];exact ⟨fun h=>by rw [h];rfl,fun h=>UInt8.toNat_inj.1 h⟩
    rw [langGo] at HL;rw [hB] at HL;by_cases c45:B = 45
    ·
     have d45:((B:Int) == 45) = true:=by rw [beq_iff_eq];omega
     rw [if_pos (hb45.2 c45)] at HL;have s1:(decide (97 <= B) && decide (B <= 122)) = false:=by simp;omega
     have s2:(decide (48 <= B) && decide (B <= 57)) = false:=by simp;omega
     rw [s1,s2];clear hb45 s1 s2;by_cases cm:0 < m
     ·
      have dm:decide (0 < m) = true:=dT cm;rw [dm] at HL;go_wp2;go_roundw
      case rel=>exact ⟨k + 1,p + 1,0,by omega,by go_num,by go_num,rfl,by omega,by omega,HW2,Zz (by rw [HL.o];simp)⟩
      case measure=>simp [intOf];omega
     ·
      have dm:decide (0 < m) = false:=dF cm;rw [dm] at HL;have HF:Hid (isLang l = false):=Zz (by rw [isLang,HL.o];simp);go_wp2;go_ret;exact ⟨ret_bool HF.o.symm,HW2.o⟩
    ·
     have d45:((B:Int) == 45) = false:=by rw [Zb];omega
     rw [if_neg (fun h=>c45 (hb45.1 h))] at HL;clear hb45;have w8:IntKind.i64.wrap ((m:Int) + 1) = ((m + 1:Nat):Int):=w1;generalize (decide (97 <= B) && decide (B <= 122)) = sm at *;generalize (decide (48 <= B) && decide (B <= 57)) = dg at *;by_cases good:(sm || (decide (0 < p) && dg)) = true
     ·
      rw [if_pos good] at HL;by_cases c8:m < 8
      ·
       have d8:decide (8 < ((m + 1:Nat):Int)) = false:=dF (by omega);have HL':Hid (langGo false 0 l = langGo (decide (0 < p)) (m + 1) (l.drop (k + 1))):=Zz (by rw [HL.o,dT c8];rfl);cases sm with
       | true =>
        clear good;go_wp2;go_roundw
        case rel=>exact ⟨k + 1,p,m + 1,by omega,by go_num,rfl,by go_num,by omega,by omega,HW2,HL'⟩
        case measure=>simp [intOf];omega
       | false =>
        rw [Bool.false_or,Bool.and_eq_true] at good;obtain ⟨gp,rfl⟩:=good;go_wp2;go_roundw
        case rel=>exact ⟨k + 1,p,m + 1,by omega,by go_num,rfl,by go_num,by omega,by omega,HW2,HL'⟩
        case measure=>simp [intOf];omega
      ·
       have d8:decide (8 < ((m + 1:Nat):Int)) = true:=dT (by omega);have HF:Hid (isLang l = false):=Zz (by rw [isLang,HL.o,dF c8];rfl);cases sm with
       | true =>
        clear good;go_wp2;go_ret;exact ⟨ret_bool HF.o.symm,HW2.o⟩
       | false =>
        rw [Bool.false_or,Bool.and_eq_true] at good;obtain ⟨gp,rfl⟩:=good;go_wp2;go_ret;exact ⟨ret_bool HF.o.symm,HW2.o⟩
     ·
      rw [if_neg good] at HL;have HF:Hid (isLang l = false):=Zz (by rw [isLang,HL.o];rfl);cases sm with
      | true=>exact absurd rfl good
      | false =>
       cases dg with
       | false =>
        clear good;go_wp2;go_ret;exact ⟨ret_bool HF.o.symm,HW2.o⟩
       | true =>
        have gp:decide (0 < p) = false:=by
         cases h:decide (0 < p) with
         | false=>rfl
         | true=>rw [h] at good;exact absurd rfl good
        clear good;go_wp2;go_ret;exact ⟨ret_bool HF.o.symm,HW2.o⟩
  ·
   obtain rfl:k = l.length:=by omega
   rw [List.drop_length] at HL;have HF:Hid (isLang l = (decide (0 < m) && decide (l.length <= 16))):=Zz (by rw [isLang,HL.o,langGo]);clear HL;by_cases cm:0 < m
   ·
    have dm:decide (0 < m) = true:=dT cm;by_cases c16:l.length <= 16
    ·
     have d16:decide ((l.length:Int) <= 16) = true:=dT (by omega);have HF':=Zz (HF.o.trans (by simp [cm,c16]:_ = true));go_wp2;go_ret;exact ⟨ret_bool HF'.o.symm,HW.o⟩
    ·
     have d16:decide ((l.length:Int) <= 16) = false:=dF (by omega);have HF':=Zz (HF.o.trans (by simp [c16]:_ = false));go_wp2;go_ret;exact ⟨ret_bool HF'.o.symm,HW.o⟩
   ·
    have dm:decide (0 < m) = false:=dF cm;have HF':=Zz (HF.o.trans (by simp [cm]:_ = false));go_wp2;go_ret;exact ⟨ret_bool HF'.o.symm,HW.o⟩
end Ref4
namespace Ref5
open Go.RowKit Go.Lib B Ref4 Rd Utf TermPure LinesPure
theorem isPrefixOf_take (p s:List UInt8) (h:p.length <= s.length):(s.take p.length == p) = p.isPrefixOf s:=by
 rw [Bool.eq_iff_iff,beq_iff_eq,List.isPrefixOf_iff_prefix,List.prefix_iff_eq_take];exact ⟨fun e=>e.symm,fun e=>e.symm⟩
theorem not_prefix (p s:List UInt8) (h:¬ p.length <= s.length):p.isPrefixOf s = false:=by
 rw [Bool.eq_false_iff];intro e;rw [List.isPrefixOf_iff_prefix] at e;exact h e.length_le
theorem has_calls (rb:Nat) (s p:List UInt8) (bad:Bool) (hp:p.length <= 100) (w:World) (h:At w rb s bad) :
  Calls Tryz.prog 147 #[.pointer (some ⟨rb,0,none⟩),.string (mkS p)] w fun e w'=>e = .returned (.bool (p.isPrefixOf s))/\w = w':=by
 obtain ⟨c0,c1,f0,f1,len⟩:=h;have z1:=mkS_size s;have z2:=mkS_size p;have y1:=Zz (mkS_extract s 0 p.length);by_cases hl:p.length <= s.length
 ·
  go_enter func147,ntmps147;go_wp2;go_ret;exact ⟨ret_bool (by rw [y1.o,mkS_toList,mkS_toList,List.drop_zero,Nat.sub_zero];exact isPrefixOf_take p s hl),rfl⟩
 ·
  have hn:=Zz (not_prefix p s hl);go_enter func147,ntmps147;go_wp2;go_ret;exact ⟨ret_bool hn.o.symm,rfl⟩
theorem fail_calls (rb:Nat) (s:List UInt8) (bad:Bool) (w:World) (h:At w rb s bad) :
  Calls Tryz.prog 190 #[.pointer (some ⟨rb,0,none⟩)] w fun e w'=>e = .returned (.tuple #[])/\Step w w' rb [] true:=by
 have h':=h;obtain ⟨c0,c1,f0,f1,len⟩:=h;go_enter func190,ntmps190;go_wp2;go_end0;exact ⟨rfl,((Step.refl h').set0 (t:=[]) (by simp)).set1 true⟩
theorem blanks_cons (b:UInt8) (l:List UInt8) (h:LinesPure.blank b = true):blanks (b :: l) = blanks l:=by
 rw [blanks,blanks,List.dropWhile_cons,if_pos h]
theorem blanks_stop (b:UInt8) (l:List UInt8) (h:LinesPure.blank b = false):blanks (b :: l) = b :: l:=by
 rw [blanks,List.dropWhile_cons,h]
 try rfl
theorem blank_yes (b:UInt8) (h:(b.toNat:Int) = 32 \/ (b.toNat:Int) = 9):LinesPure.blank b = true:=by
 rw [LinesPure.blank,Bool.or_eq_true,beq_iff_eq,beq_iff_eq];rcases h with h | h
 ·
  exact .inl (UInt8.toNat_inj.1 (by simp;omega))
 ·
  exact .inr (UInt8.toNat_inj.1 (by simp;omega))
theorem blank_no (b:UInt8) (h:(b.toNat:Int) ≠ 32) (h':(b.toNat:Int) ≠ 9):LinesPure.blank b = false:=by
 rw [LinesPure.blank,Bool.or_eq_false_iff,Zb,Zb];exact ⟨fun e=>h (by rw [e];rfl),fun e=>h' (by rw [e];rfl)⟩
theorem blanks_calls (rb:Nat) (s:List UInt8) (bad:Bool) (w:World) (h:At w rb s bad) :
  Calls Tryz.prog 146 #[.pointer (some ⟨rb,0,none⟩)] w fun e w'=>e = .returned (.tuple #[])/\Step w w' rb (blanks s) bad:=by
 have h':=Zz h;clear h;go_enter func146,ntmps146;go_wp2;go_loopg [] s.length (fun k wr=>∃ l:List UInt8,l.length = k/\Hid (Step w wr rb l bad)/\Hid (blanks l = blanks s))
 case atStart=>exact ⟨s,rfl,Zz (Step.refl h'.o),Zz rfl⟩
 case round =>
  obtain ⟨l,hl0,HS,HB⟩:=hrel;have hl:=Zz hl0;clear hl0;obtain ⟨c0,c1,f0,f1,len⟩:=HS.o.at';have z:=mkS_size l;cases l with
  | nil =>
   have z1:(mkS ([]:List UInt8)).toList = []:=mkS_toList [];clear h';go_wp2;go_end0;exact ⟨rfl,by rw [<- HB.o];exact HS.o⟩
  | cons b t =>
   have z1:(mkS (b :: t)).toList = b :: t:=mkS_toList _;have hk:0 < (mkS (b :: t)).size:=by rw [z];simp
   have hg:(mkS (b :: t))[0]'hk = b:=rfl;have hx:(mkS (b :: t)).extract 1 (b :: t).length = mkS t:=by rw [mkS_extract];simp
   have hn:(1:Int) <= ((b :: t).length:Int):=by simp;omega
   have hE:(b :: t).isEmpty = false:=rfl;have hE':¬ (b :: t) = []:=by simp
   have HT:Hid (LinesPure.blank b = true -> blanks t = blanks s):=Zz (fun h=>by rw [<- HB.o,blanks_cons b t h]);have HN:Hid (LinesPure.blank b = false -> blanks s = b :: t):=Zz (fun h=>by rw [<- HB.o,blanks_stop b t h]);have HL:Hid (t.length <= 70368744177664/\t.length < gk):=Zz (by rw [<- hl.o];simp at len |-;omega);generalize hL:(b :: t:List UInt8) = L at *;have HB1:=Zz hL;clear h' hL;by_cases a1:(b.toNat:Int) = 32
   ·
    have e1:((b.toNat:Int) == 32) = true:=by rw [beq_iff_eq];exact a1
    have HB2:=Zz (HT.o (blank_yes b (.inl a1)));clear a1;go_wp2;go_roundg t.length
    case measure=>exact HL.o.2
    case rel=>exact ⟨t,rfl,Zz (HS.o.set0 HL.o.1),HB2⟩
   ·
    have e1:((b.toNat:Int) == 32) = false:=by rw [Zb];exact a1
    by_cases a2:(b.toNat:Int) = 9
    ·
     have e2:((b.toNat:Int) == 9) = true:=by rw [beq_iff_eq];exact a2
     have HB2:=Zz (HT.o (blank_yes b (.inr a2)));clear a1 a2;go_wp2;go_roundg t.length
     case measure=>exact HL.o.2
     case rel=>exact ⟨t,rfl,Zz (HS.o.set0 HL.o.1),HB2⟩
    ·
     have e2:((b.toNat:Int) == 9) = false:=by rw [Zb];exact a2
     have HB2:=Zz (HN.o (blank_no b a1 a2));clear a1 a2;go_wp2;go_end0;exact ⟨rfl,by rw [HB2.o];exact HS.o⟩
theorem tw_of (p:UInt8 -> Bool) (s:List UInt8) (k:Nat) (hk:k <= s.length) (hall:(s.take k).all p = true) (hstop:∀ h:k < s.length,p s[k] = false) :
  s.takeWhile p = s.take k/\s.dropWhile p = s.drop k:=by
 induction s generalizing k with
 | nil=>simp
 | cons b t ih =>
  cases k with
  | zero =>
   have:=hstop (by simp);simp at this;simp [List.takeWhile_cons,List.dropWhile_cons,this]
  | succ k =>
   simp at hall;have hb:=hall.1;have:=ih k (by simpa using hk) (by simpa using hall.2) (fun h=>by have:=hstop (by simp;omega);simpa using this);simp [List.takeWhile_cons,List.dropWhile_cons,hb,this.1,this.2]
theorem run_eq (dash:Bool) (l:List UInt8):run dash l = (l.takeWhile (inRun dash),l.dropWhile (inRun dash)):=rfl
theorem byte_beq (b:UInt8) (n:Nat) (hn:n < 256):(b == UInt8.ofNat n) = ((b.toNat:Int) == (n:Int)):=by
 rw [Bool.eq_iff_iff,beq_iff_eq,beq_iff_eq];constructor
 ·
  rintro rfl;simp;omega
 ·
  intro h;apply UInt8.toNat_inj.1;simp;omega
theorem run_calls (rb:Nat) (s:List UInt8) (bad dash:Bool) (w:World) (h:At w rb s bad) :
  Calls Tryz.prog 188 #[.pointer (some ⟨rb,0,none⟩),.bool dash] w fun e w'=>e = .returned (.string (mkS (run dash s).1))/\Step w w' rb (run dash s).2 bad:=by
 have h':=Zz h;obtain ⟨c0,c1,f0,f1,len⟩:=h;have z:=mkS_size s;go_enter func188,ntmps188;go_wp2;go_loopw [5] (fun vi wr=>∃ k:Nat,k <= s.length/\vi = .int .i64 k/\wr = w/\Hid ((s.take k).all (inRun dash) = true)) (fun vi _=>s.length - (intOf vi).toNat)
 case atStart=>exact ⟨0,by omega,rfl,rfl,Zz rfl⟩
 case round =>
  obtain ⟨k,hk,rfl,rfl,HA⟩:=hrel;have HX:Hid ((mkS s).extract k s.length = mkS (s.drop k)):=Zz (by rw [mkS_extract,List.take_of_length_le (by simp)]);have HY:Hid ((mkS s).extract 0 k = mkS (s.take k)):=Zz (by rw [mkS_extract];simp);have HD:Hid ((s.drop k).length <= 70368744177664):=Zz (by rw [Zj];omega);by_cases hlt:k < s.length
  ·
   have hd:decide (k < s.length) = true:=dT hlt;have ik:(k:Int) < (s.length:Int):=by omega
   have ik0:(0:Int) <= (k:Int):=by omega
   obtain ⟨b,hb0⟩:∃ b,s[k] = b:=⟨_,rfl⟩;have hks:k < (mkS s).size:=by rw [z];exact hlt
   have hg:(mkS s)[k]'hks = b:=(Rd.mkS_get s k hks hlt).trans hb0;have hgl:Hid (s.take (k + 1) = s.take k ++ [b]):=Zz (by rw [Zt hlt,hb0]);have HN:Hid (inRun dash b = false -> s.takeWhile (inRun dash) = s.take k/\s.dropWhile (inRun dash) = s.drop k):=
    Zz (fun hf=>tw_of _ s k hk HA.o (fun h=>by rw [hb0];exact hf))
   have HY1:Hid (inRun dash b = true -> (s.take (k + 1)).all (inRun dash) = true):=Zz (fun ht=>by rw [hgl.o,List.all_append,HA.o];simp [ht]);have HI:Hid (inRun dash b = (alnum b.toNat || (dash && ((b.toNat:Int) == 45)))):=Zz (by rw [inRun,show (b == 45) = ((b.toNat:Int) == 45) from byte_beq b 45 (by decide)]);clear hb0 HA hgl;go_wp2_with fail;refine (alnum_calls b _).mono ?_;rintro e w1 ⟨rfl,rfl⟩;cases hb:alnum b.toNat with
   | true =>
    have HR:=Zz (HY1.o (by rw [HI.o,hb];rfl));go_wp2;go_roundw
    case rel=>exact ⟨k + 1,by omega,by go_num,by first | rfl | trivial,HR⟩
    case measure=>simp [intOf];omega
   | false =>
    cases dash with
    | false =>
     have HR:=Zz (HN.o (by rw [HI.o,hb];rfl));go_wp2;go_ret;exact ⟨ret_str (HY.o.trans (by rw [run_eq,HR.o.1])),by rw [run_eq];dsimp only;rw [HR.o.2];have:=(Step.refl h'.o).set0 (t:=s.drop k) HD.o;rw [<- HX.o] at this;exact this⟩
    | true =>
     cases hc:((b.toNat:Int) == 45) with
     | true =>
      have HR:=Zz (HY1.o (by rw [HI.o,hb,hc];rfl));go_wp2;go_roundw
      case rel=>exact ⟨k + 1,by omega,by go_num,by first | rfl | trivial,HR⟩
      case measure=>simp [intOf];omega
     | false =>
      have HR:=Zz (HN.o (by rw [HI.o,hb,hc];rfl));go_wp2;go_ret;exact ⟨ret_str (HY.o.trans (by rw [run_eq,HR.o.1])),by rw [run_eq];dsimp only;rw [HR.o.2];have:=(Step.refl h'.o).set0 (t:=s.drop k) HD.o;rw [<- HX.o] at this;exact this⟩
  ·
   have hd:decide (k < s.length) = false:=dF hlt;have HR:=Zz (tw_of (inRun dash) s k hk HA.o (fun h=>absurd h hlt));go_wp2;go_ret;exact ⟨ret_str (HY.o.trans (by rw [run_eq,HR.o.1])),by rw [run_eq];dsimp only;rw [HR.o.2];have:=(Step.refl h'.o).set0 (t:=s.drop k) HD.o;rw [<- HX.o] at this;exact this⟩
end Ref5
namespace Ref5
open Go.RowKit Go.Lib B Rd Utf TermPure LinesPure Tx
def hexR (n:Nat) (s:List UInt8):Int:=match hexGo n 0 s with
 | none=>-1
 | some (v,_)=>if Lib.validRune (v:Int) = true then (v:Int) else -1
theorem hexGo_short:∀ (n v:Nat) (l:List UInt8),l.length < n -> hexGo n v l = none
 | 0,v,l,h=>by omega
 | n + 1,v,[],h=>rfl
 | n + 1,v,b :: l,h=>by
  rw [hexGo]
  cases hexV b with
  | none=>rfl
  | some d=>exact hexGo_short n _ l (by simp at h;omega)
theorem hexV_digit (b:UInt8) (h1:48 <= b.toNat) (h2:b.toNat <= 57):hexV b = some (b.toNat - 48):=by rw [hexV,if_pos ⟨h1,h2⟩]
theorem hexV_small (b:UInt8) (h1:97 <= b.toNat) (h2:b.toNat <= 102):hexV b = some (b.toNat - 87):=by rw [hexV,if_neg (by omega),if_pos ⟨h1,h2⟩]
theorem hexV_cap (b:UInt8) (h1:65 <= b.toNat) (h2:b.toNat <= 70):hexV b = some (b.toNat - 55):=by rw [hexV,if_neg (by omega),if_neg (by omega),if_pos ⟨h1,h2⟩]
theorem hexV_none (b:UInt8) (h1:¬ (48 <= b.toNat/\b.toNat <= 57)) (h2:¬ (97 <= b.toNat/\b.toNat <= 102)) (h3:¬ (65 <= b.toNat/\b.toNat <= 70)):hexV b = none:=by rw [hexV,if_neg h1,if_neg h2,if_neg h3]
theorem pow16 {k v:Nat} (hk:k <= 8) (h:v < 16 ^ k):v <= 4294967295:=by
 have:16 ^ k <= 16 ^ 8:=Nat.pow_le_pow_right (by omega) hk;have e:16 ^ 8 = 4294967296:=by decide
 omega
theorem pow16_step {k v d:Nat} (h:v < 16 ^ k) (hd:d <= 15):v * 16 + d < 16 ^ (k + 1):=by
 rw [Nat.pow_succ];omega
theorem hex_calls (s:List UInt8) (n:Nat) (hn:n <= 8) (hs:s.length <= 70368744177664) (w:World) :
  Calls Tryz.prog 244 #[.string (mkS s),.int .i64 n] w fun e w'=>e = .returned (.int .i32 (hexR n s))/\w = w':=by
 have z:=mkS_size s;by_cases hsh:s.length < n
 ·
  have hd:decide (s.length < n) = true:=dT hsh;have HR:Hid (hexR n s = -1):=Zz (by rw [hexR,hexGo_short n 0 s hsh]);go_enter func244,ntmps244;go_wp2;go_ret;exact ⟨ret_int HR.o.symm,rfl⟩
 ·
  have hd:decide (s.length < n) = false:=dF hsh;go_enter func244,ntmps244;go_wp2;clear hd;go_loopw [5,6] (fun vx vi wr=>∃ k v:Nat,k <= n/\vi = .int .i64 k/\vx = .int .i64 v/\wr = w/\Hid (v < 16 ^ k)/\Hid (hexGo n 0 s = hexGo (n - k) v (s.drop k))) (fun _ vi _=>n - (intOf vi).toNat)
  case atStart=>exact ⟨0,0,by omega,rfl,rfl,rfl,Zz (by simp),Zz (by simp)⟩
  case round =>
   obtain ⟨k,v,hk,rfl,rfl,rfl,HP,HG⟩:=hrel;have hv:=pow16 (by omega) HP.o;by_cases hlt:k < n
   ·
    have hd:decide (k < n) = true:=dT hlt;have ik:(k:Int) < (s.length:Int):=by omega
    have hlt':k < s.length:=by omega
    have ik0:(0:Int) <= (k:Int):=by omega
    obtain ⟨b,hb0⟩:∃ b,s[k] = b:=⟨_,rfl⟩;have hks:k < (mkS s).size:=by rw [z];exact hlt'
    have hg:(mkS s)[k]'hks = b:=(Rd.mkS_get s k hks hlt').trans hb0;have HD:Hid (s.drop k = b :: s.drop (k + 1)):=Zz (by rw [List.drop_eq_getElem_cons hlt',hb0]);have HS:Hid (∀ d:Nat,d <= 15 -> hexV b = some d -> v * 16 + d < 16 ^ (k + 1)/\hexGo n 0 s = hexGo (n - (k + 1)) (v * 16 + d) (s.drop (k + 1))):=Zz (fun d h15 h=>by
     refine ⟨pow16_step HP.o h15,?_⟩;rw [HG.o,HD.o,show n - k = (n - (k + 1)) + 1 from by omega,hexGo,h])
    have HN:Hid (hexV b = none -> hexR n s = -1):=Zz (fun h=>by
     rw [hexR,HG.o,HD.o,show n - k = (n - (k + 1)) + 1 from by omega,hexGo,h])
    have V1:=Zz (hexV_digit b);have V2:=Zz (hexV_small b);have V3:=Zz (hexV_cap b);have V4:=Zz (hexV_none b);have hB:=b.toNat_lt;clear hb0 HD HP HG hsh;by_cases d1:48 <= b.toNat/\b.toNat <= 57
    ·
     obtain ⟨g1,g2⟩:=d1;have e1:decide (48 <= (b.toNat:Int)) = true:=dT (by omega);have e2:decide ((b.toNat:Int) <= 57) = true:=dT (by omega);have i1:(48:Int) <= (b.toNat:Int):=by omega
     obtain ⟨s1,s2⟩:=HS.o (b.toNat - 48) (by omega) (V1.o g1 g2);have S1:=Zz s1;have S2:=Zz s2;clear s1 s2 HS HN;go_wp2;go_roundw
     case rel=>exact ⟨k + 1,v * 16 + (b.toNat - 48),by omega,by go_num,ret_i (by omega),by first | rfl | trivial,S1,S2⟩
     case measure=>simp [intOf];omega
    ·
     by_cases d2:97 <= b.toNat/\b.toNat <= 102
     ·
      obtain ⟨g1,g2⟩:=d2;have e1:decide (48 <= (b.toNat:Int)) = true:=dT (by omega);have e2:decide ((b.toNat:Int) <= 57) = false:=dF (by omega);have e3:decide (97 <= (b.toNat:Int)) = true:=dT (by omega);have e4:decide ((b.toNat:Int) <= 102) = true:=dT (by omega);have i1:(97:Int) <= (b.toNat:Int):=by omega
      obtain ⟨s1,s2⟩:=HS.o (b.toNat - 87) (by omega) (V2.o g1 g2);have S1:=Zz s1;have S2:=Zz s2;clear s1 s2 HS HN;go_wp2;go_roundw
      case rel=>exact ⟨k + 1,v * 16 + (b.toNat - 87),by omega,by go_num,ret_i (by omega),by first | rfl | trivial,S1,S2⟩
      case measure=>simp [intOf];omega
     ·
      by_cases d3:65 <= b.toNat/\b.toNat <= 70
      ·
       obtain ⟨g1,g2⟩:=d3;have e1:decide (48 <= (b.toNat:Int)) = true:=dT (by omega);have e2:decide ((b.toNat:Int) <= 57) = false:=dF (by omega);have e3:decide (97 <= (b.toNat:Int)) = false:=dF (by omega);have e5:decide (65 <= (b.toNat:Int)) = true:=dT (by omega);have e6:decide ((b.toNat:Int) <= 70) = true:=dT (by omega);have i1:(65:Int) <= (b.toNat:Int):=by omega
       obtain ⟨s1,s2⟩:=HS.o (b.toNat - 55) (by omega) (V3.o g1 g2);have S1:=Zz s1;have S2:=Zz s2;clear s1 s2 HS HN;go_wp2;go_roundw
       case rel=>exact ⟨k + 1,v * 16 + (b.toNat - 55),by omega,by go_num,ret_i (by omega),by first | rfl | trivial,S1,S2⟩
       case measure=>simp [intOf];omega
      ·
       have HF:=Zz (HN.o (V4.o d1 d2 d3));clear HS HN;go_wp2
       all_goals first | omega | (go_ret;exact ⟨ret_int HF.o.symm,rfl⟩)
   ·
    obtain rfl:k = n:=by omega
    rw [Nat.sub_self,hexGo] at HG;have hd:decide (k < k) = false:=dF (by omega);have i1:(0:Int) <= (v:Int):=by omega
    have HF:Hid (hexR k s = if Lib.validRune (v:Int) = true then (v:Int) else -1):=Zz (by rw [hexR,HG.o]);have HV:Hid (Lib.validRune (v:Int) = decide ((0 <= (v:Int)/\(v:Int) < 55296) \/ (57343 < (v:Int)/\(v:Int) <= 1114111))):=Zz rfl;clear HG HP hv;by_cases c1:v <= 1114111
    ·
     have e1:decide (1114111 < (v:Int)) = false:=dF (by omega);have i3:(v:Int) <= 1114111:=by omega
     by_cases c2:55296 <= v
     ·
      have e2:decide (55296 <= (v:Int)) = true:=dT (by omega);by_cases c3:v <= 57343
      ·
       have e3:decide ((v:Int) <= 57343) = true:=dT (by omega);have HF2:=Zz (HF.o.trans (if_neg (by rw [HV.o,decide_eq_true_iff];omega)));go_wp2;go_ret;exact ⟨ret_int HF2.o.symm,rfl⟩
      ·
       have e3:decide ((v:Int) <= 57343) = false:=dF (by omega);have HF2:=Zz (HF.o.trans (if_pos (by rw [HV.o,decide_eq_true_iff];omega)));go_wp2;go_ret;exact ⟨ret_int HF2.o.symm,rfl⟩
     ·
      have e2:decide (55296 <= (v:Int)) = false:=dF (by omega);have HF2:=Zz (HF.o.trans (if_pos (by rw [HV.o,decide_eq_true_iff];omega)));go_wp2;go_ret;exact ⟨ret_int HF2.o.symm,rfl⟩
    ·
     have e1:decide (1114111 < (v:Int)) = true:=dT (by omega);have HF2:=Zz (HF.o.trans (if_neg (by rw [HV.o,decide_eq_true_iff];omega)));go_wp2;go_ret;exact ⟨ret_int HF2.o.symm,rfl⟩
def EscIs (lit:Bool) (s o:List UInt8) (n:Nat):Prop:=(n = 0/\o = []/\esc lit s = none) \/ (0 < n/\n <= s.length/\esc lit s = some (o,s.drop n)/\o.length <= n)
theorem rune_cases (n:Nat) (t:List UInt8):(hexR n t = -1/\rune (hexGo n 0 t) = none) \/ (∃ v:Nat,hexR n t = (v:Int)/\Lib.validRune (v:Int) = true/\n <= t.length/\rune (hexGo n 0 t) = some (encodeRune (v:Int),t.drop n)):=by
 unfold hexR;cases h:hexGo n 0 t with
 | none=>exact .inl ⟨rfl,rfl⟩
 | some p =>
  obtain ⟨v,r⟩:=p;obtain ⟨rfl,h2⟩:=hexGo_rest n 0 t v r h;dsimp only;by_cases hv:Lib.validRune (v:Int) = true
  ·
   right;exact ⟨v,by rw [if_pos hv],hv,h2,by rw [rune,if_pos hv]⟩
  ·
   left;exact ⟨by rw [if_neg hv],by rw [rune,if_neg hv]⟩
def escF:List UInt8:=[34,92,110,114,116,98,102,39]
def escT:List UInt8:=[34,92,10,13,9,8,12,39]
theorem escV_at:∀ k:Nat,(h:k < 8) -> escV (escF[k]'h) = some (escT[k]'h):=by decide
theorem escV_not (b:UInt8) (h:∀ k:Nat,(hk:k < 8) -> escF[k]'hk ≠ b):escV b = none:=by
 have h0:=h 0 (by decide);have h1:=h 1 (by decide);have h2:=h 2 (by decide);have h3:=h 3 (by decide)
 have h4:=h 4 (by decide);have h5:=h 5 (by decide);have h6:=h 6 (by decide);have h7:=h 7 (by decide)
 simp [escF] at h0 h1 h2 h3 h4 h5 h6 h7;unfold escV;rw [if_neg (fun e=>h4 e.symm),if_neg (fun e=>h5 e.symm),if_neg (fun e=>h2 e.symm),if_neg (fun e=>h3 e.symm),if_neg (fun e=>h6 e.symm),if_neg (fun e=>h0 e.symm),if_neg (fun e=>h7 e.symm),if_neg (fun e=>h1 e.symm)]
theorem esc_nil_calls (lit:Bool) (w:World) :
  Calls Tryz.prog 218 #[.string (mkS []),.bool lit] w fun e w'=>e = .returned (.tuple #[.string (mkS []),.int .i64 0])/\w = w':=by
 have z1:(mkS ([]:List UInt8)).toList = []:=mkS_toList [];go_enter func218,ntmps218;go_wp2;go_ret2;exact ⟨rfl,rfl⟩
theorem esc_num_calls (b:UInt8) (t:List UInt8) (n:Nat) (hb:b.toNat = 117/\n = 4 \/ b.toNat = 85/\n = 8) (lit:Bool) (hs:t.length <= 70368744177663) (w:World) :
  Calls Tryz.prog 218 #[.string (mkS (b :: t)),.bool lit] w fun e w'=>(∃ (o:List UInt8) (n:Nat),e = .returned (.tuple #[.string (mkS o),.int .i64 n])/\EscIs lit (b :: t) o n)/\Below w.heap.size w w':=by
 have HE:Hid (esc lit (b :: t) = rune (hexGo n 0 t)):=Zz (by
  rcases hb with ⟨h,rfl⟩ | ⟨h,rfl⟩
  ·
   rw [show b = 117 from UInt8.toNat_inj.1 h];rfl
  ·
   rw [show b = 85 from UInt8.toNat_inj.1 h];rfl)
 have z1:(mkS (b :: t)).toList = b :: t:=mkS_toList _;have z:=mkS_size (b :: t);have hk:0 < (mkS (b :: t)).size:=by rw [z];simp
 have hg:(mkS (b :: t))[0]'hk = b:=rfl;have hx:(mkS (b :: t)).extract 1 (b :: t).length = mkS t:=by rw [mkS_extract];simp
 have hn:(1:Int) <= ((b :: t).length:Int):=by simp;omega
 have hE:(b :: t).isEmpty = false:=rfl;have HL:Hid ((b :: t).length = t.length + 1):=Zz rfl;generalize hL:(b :: t:List UInt8) = L at *;have HB1:=Zz hL;clear hL;have RC:=rune_cases n t;rcases hb with ⟨h,rfl⟩ | ⟨h,rfl⟩
 ·
  have e1:((b.toNat:Int) == 117) = true:=by rw [beq_iff_eq];omega
  have e2:((b.toNat:Int) == 85) = false:=by rw [Zb];omega
  clear h;rcases RC with ⟨r1,r2⟩ | ⟨v,r1,r2,r3,r4⟩
  ·
   have R1:=Zz r1;have R2:=Zz (HE.o.trans r2);clear r1 r2;go_enter func218,ntmps218;go_wp2_with fail;refine (hex_calls t 4 (by omega) (by omega) _).mono ?_;rintro e w1 ⟨rfl,rfl⟩;rw [R1.o];go_wp2;go_ret2;exact ⟨⟨[],0,rfl,.inl ⟨rfl,rfl,R2.o⟩⟩,bR _ _⟩
  ·
   have R1:=Zz r1;have R2:=Zz (HE.o.trans r4);have R3:=Zz r3;have hv0:(0:Int) <= (v:Int):=by omega
   have hdl:decide ((v:Int) < 0) = false:=dF (by omega);have hcv:=fun W:World=>conv_rune v r2 W
   clear r1 r2 r3 r4;go_enter func218,ntmps218;go_wp2_with fail;refine (hex_calls t 4 (by omega) (by omega) _).mono ?_;rintro e w1 ⟨rfl,rfl⟩;rw [R1.o];go_wp2;go_ret2;exact ⟨⟨encodeRune (v:Int),5,rfl,.inr ⟨by omega,by rw [HL.o];have:=R3.o;omega,by rw [R2.o,<- HB1.o];rfl,Zh (encodeRune_len _) (by omega)⟩⟩,(bR _ _).alloc (lR _) _⟩
 ·
  have e1:((b.toNat:Int) == 117) = false:=by rw [Zb];omega
  have e2:((b.toNat:Int) == 85) = true:=by rw [beq_iff_eq];omega
  clear h;rcases RC with ⟨r1,r2⟩ | ⟨v,r1,r2,r3,r4⟩
  ·
   have R1:=Zz r1;have R2:=Zz (HE.o.trans r2);clear r1 r2;go_enter func218,ntmps218;go_wp2_with fail;refine (hex_calls t 8 (by omega) (by omega) _).mono ?_;rintro e w1 ⟨rfl,rfl⟩;rw [R1.o];go_wp2;go_ret2;exact ⟨⟨[],0,rfl,.inl ⟨rfl,rfl,R2.o⟩⟩,bR _ _⟩
  ·
   have R1:=Zz r1;have R2:=Zz (HE.o.trans r4);have R3:=Zz r3;have hv0:(0:Int) <= (v:Int):=by omega
   have hdl:decide ((v:Int) < 0) = false:=dF (by omega);have hcv:=fun W:World=>conv_rune v r2 W
   clear r1 r2 r3 r4;go_enter func218,ntmps218;go_wp2_with fail;refine (hex_calls t 8 (by omega) (by omega) _).mono ?_;rintro e w1 ⟨rfl,rfl⟩;rw [R1.o];go_wp2;go_ret2;exact ⟨⟨encodeRune (v:Int),9,rfl,.inr ⟨by omega,by rw [HL.o];have:=R3.o;omega,by rw [R2.o,<- HB1.o];rfl,Zh (encodeRune_len _) (by omega)⟩⟩,(bR _ _).alloc (lR _) _⟩
theorem esc_other (b:UInt8) (t:List UInt8) (lit:Bool) (h1:b.toNat ≠ 117) (h2:b.toNat ≠ 85):esc lit (b :: t) = if lit then (match escV b with
   | some c=>some ([c],t)
   | none=>none) else none:=by
 rw [esc,if_neg (fun e=>h1 (by rw [e];rfl)),if_neg (fun e=>h2 (by rw [e];rfl))]
 try rfl
theorem esc_sign_calls (b:UInt8) (t:List UInt8) (h1:b.toNat ≠ 117) (h2:b.toNat ≠ 85) (lit:Bool) (hs:t.length <= 70368744177663) (w:World) :
  Calls Tryz.prog 218 #[.string (mkS (b :: t)),.bool lit] w fun e w'=>(∃ (o:List UInt8) (n:Nat),e = .returned (.tuple #[.string (mkS o),.int .i64 n])/\EscIs lit (b :: t) o n)/\Below w.heap.size w w':=by
 have HE:=Zz (esc_other b t lit h1 h2);have z1:(mkS (b :: t)).toList = b :: t:=mkS_toList _;have z:=mkS_size (b :: t);have hk:0 < (mkS (b :: t)).size:=by rw [z];simp
 have hg:(mkS (b :: t))[0]'hk = b:=rfl;have hn:(1:Int) <= ((b :: t).length:Int):=by simp;omega
 have hE:(b :: t).isEmpty = false:=rfl;have HL:Hid ((b :: t).length = t.length + 1):=Zz rfl;have e1:((b.toNat:Int) == 117) = false:=by rw [Zb];omega
 have e2:((b.toNat:Int) == 85) = false:=by rw [Zb];omega
 have HT:Hid (t = (b :: t).drop 1):=Zz rfl;generalize hL:(b :: t:List UInt8) = L at *;clear h1 h2 hL;cases lit with
 | false =>
  have HN:Hid (esc false L = none):=HE;clear HE;go_enter func218,ntmps218;go_wp2;go_loopw [10] (fun vi wr=>vi = .int .i64 0/\wr = w) (fun _ _=>0)
  case atStart=>exact ⟨rfl,rfl⟩
  case round =>
   obtain ⟨rfl,rfl⟩:=hrel;go_wp2;go_ret2;exact ⟨⟨[],0,rfl,.inl ⟨rfl,rfl,HN.o⟩⟩,bR _ _⟩
 | true =>
  go_enter func218,ntmps218;go_wp2;go_loopw [10] (fun vi wr=>∃ k:Nat,k <= 8/\vi = .int .i64 k/\Hid (Below w.heap.size w wr)/\Hid (∀ j:Nat,(hj:j < 8) -> j < k -> escF[j]'hj ≠ b)) (fun vi _=>8 - (intOf vi).toNat)
  case atStart=>exact ⟨0,by omega,rfl,Zz (bR _ _),Zz (fun j hj h=>by omega)⟩
  case round =>
   obtain ⟨k,hk8,rfl,HW,HF⟩:=hrel;by_cases hlt:k < 8
   ·
    have hd:decide ((k:Int) < 8) = true:=dT (by omega);have ik:(k:Int) < 8:=by omega
    have ik0:(0:Int) <= (k:Int):=by omega
    generalize hFF:({ data:=#[34,92,110,114,116,98,102,39] }:ByteArray) = F;generalize hTT:({ data:=#[34,92,10,13,9,8,12,39] }:ByteArray) = T;have hFe:F = mkS escF:=hFF.symm;have hTe:T = mkS escT:=hTT.symm;have zF:F.size = 8:=by rw [hFe];rfl
    have zT:T.size = 8:=by rw [hTe];rfl
    have hkF:k < F.size:=by omega
    have hgF0:F[k]'hkF = escF[k]'hlt:=by subst hFe;rfl
    obtain ⟨f,hf⟩:∃ f,escF[k]'hlt = f:=⟨_,rfl⟩;have hgF:F[k]'hkF = f:=hgF0.trans hf;have HX:Hid (T.extract k (k + 1) = mkS [escT[k]'hlt]):=Zz (by
     rw [hTe,mkS_extract];congr 1;rw [show k + 1 - k = 1 from by omega,List.drop_eq_getElem_cons hlt];rfl)
    have HV:=Zz (escV_at k hlt);rw [hf] at HV;have HF1:Hid (f ≠ b -> ∀ j:Nat,(hj:j < 8) -> j < k + 1 -> escF[j]'hj ≠ b):=Zz (fun hne j hj h=>by
     by_cases e:j = k
     ·
      subst e;rw [hf];exact hne
     ·
      exact HF.o j hj (by omega))
    clear hFF hTT hFe hTe hgF0 hf HF;have zs:(0:Int) < (L.length:Int):=by omega
    by_cases hbf:f = b
    ·
     subst hbf;go_wp2;go_quiet (fail);go_wp2;go_ret2;exact ⟨⟨[escT[k]'hlt],1,by rw [HX.o];rfl,.inr ⟨by omega,by omega,by rw [HE.o,HV.o,HT.o];rfl,by simp⟩⟩,bel_drewN HW.o _⟩
    ·
     have hbi:((b.toNat:Int) == (f.toNat:Int)) = false:=by
      rw [Zb];intro e;exact hbf (UInt8.toNat_inj.1 (by omega))
     have HF2:=Zz (HF1.o hbf);clear hbf HF1;go_wp2;go_quiet (fail);go_wp2;go_roundw
     case rel=>exact ⟨k + 1,by omega,by go_num,Zz (bel_drewN HW.o _),HF2⟩
     case measure=>simp [intOf];omega
   ·
    obtain rfl:k = 8:=by omega
    have HN:Hid (esc true L = none):=Zz (by
     rw [HE.o,escV_not b (fun j hj=>HF.o j hj hj)];rfl)
    go_wp2;go_ret2;exact ⟨⟨[],0,rfl,.inl ⟨rfl,rfl,HN.o⟩⟩,HW.o⟩
end Ref5
namespace Ref5
open Go.RowKit Go.Lib B Rd Utf TermPure LinesPure Tx
theorem esc_calls (s:List UInt8) (lit:Bool) (hs:s.length <= 70368744177663) (w:World) :
  Calls Tryz.prog 218 #[.string (mkS s),.bool lit] w fun e w'=>(∃ (o:List UInt8) (n:Nat),e = .returned (.tuple #[.string (mkS o),.int .i64 n])/\EscIs lit s o n)/\Below w.heap.size w w':=by
 cases s with
 | nil=>exact (esc_nil_calls lit w).mono fun e w' ⟨h1,h2⟩=>by subst h2;exact ⟨⟨[],0,h1,.inl ⟨rfl,rfl,rfl⟩⟩,bR _ _⟩
 | cons b t =>
  simp at hs;by_cases h1:b.toNat = 117
  ·
   exact esc_num_calls b t 4 (.inl ⟨h1,rfl⟩) lit (by omega) w
  ·
   by_cases h2:b.toNat = 85
   ·
    exact esc_num_calls b t 8 (.inr ⟨h2,rfl⟩) lit (by omega) w
   ·
    exact esc_sign_calls b t h1 h2 lit (by omega) w
def UpPost (w:World) (rb:Nat) (bad:Bool) (r:Option (List UInt8 × List UInt8)) (e:Ending) (w':World):Prop:=match r with
 | none=>e = .returned (.string (mkS []))/\Step w w' rb [] true
 | some (o,t)=>e = .returned (.string (mkS o))/\Step w w' rb t bad
theorem upTo_calls (rb:Nat) (s:List UInt8) (bad lit:Bool) (stop:UInt8) (w:World) (h:At w rb s bad) :
  Calls Tryz.prog 187 #[.pointer (some ⟨rb,0,none⟩),.int .u8 stop.toNat,.bool lit] w fun e w'=>UpPost w rb bad (up stop lit true s) e w':=by
 have HS0:=Zz (Step.refl h);have z:=mkS_size s;clear h;go_enter func187,ntmps187;go_wp2;go_loopg [7,8] (s.length + 1) (fun n v7 v8 wr=>∃ (k:Nat) (out:List UInt8),k <= s.length/\Hid (n = s.length + 1 - k)/\v8 = .int .i64 k/\v7 = .string (mkS out)/\out.length <= k/\Hid (Step w wr rb s bad)/\Hid (up stop lit true s = (up stop lit true (s.drop k)).map (fun x=>(out ++ x.1,x.2))))
 case atStart=>exact ⟨0,[],by omega,Zz (by simp),rfl,rfl,by simp,HS0,Zz (by simp)⟩
 case round =>
  obtain ⟨k,out,hk,HN,rfl,rfl,ho,HS,HU⟩:=hrel;obtain ⟨c0,c1,f0,f1,len⟩:=HS.o.at';have ik0:(0:Int) <= (k:Int):=by omega
  have zo:=mkS_size out;by_cases hlt:k < s.length
  ·
   have hd:decide (k < s.length) = true:=dT hlt;have ik:(k:Int) < (s.length:Int):=by omega
   have ik2:(k:Int) + 1 <= (s.length:Int):=by omega
   obtain ⟨b,hb0⟩:∃ b,s[k] = b:=⟨_,rfl⟩;have hks:k < (mkS s).size:=by rw [z];exact hlt
   have hg:(mkS s)[k]'hks = b:=(Rd.mkS_get s k hks hlt).trans hb0;have HD:Hid (s.drop k = b :: s.drop (k + 1)):=Zz (by rw [List.drop_eq_getElem_cons hlt,hb0]);have HX:Hid ((mkS s).extract (k + 1) s.length = mkS (s.drop (k + 1))):=Zz (by rw [mkS_extract,List.take_of_length_le (by simp)]);have HY:Hid ((mkS s).extract k (k + 1) = mkS [b]):=Zz (by
    rw [mkS_extract,show k + 1 - k = 1 from by omega,HD.o];rfl)
   have HDL:Hid ((s.drop (k + 1)).length = s.length - (k + 1)):=Zz (by simp);rw [HD.o] at HU;clear hb0 HD;by_cases b1:b = stop
   ·
    subst b1;have HR:=Zz (HU.o.trans (by rw [up_stop]));clear HU;go_wp2;go_ret;rw [HR.o];exact ⟨(ret_str (by rw [Ze]):Ending.returned (.string (mkS out)) = .returned (.string (mkS (out ++ [])))),by rw [HX.o];exact HS.o.set0 (by rw [HDL.o];omega)⟩
   ·
    have e1:((b.toNat:Int) == (stop.toNat:Int)) = false:=by
     rw [Zb];intro e;exact b1 (UInt8.toNat_inj.1 (by omega))
    by_cases b2:b = 92
    ·
     have e2:((b.toNat:Int) == 92) = true:=by rw [beq_iff_eq,b2];rfl
     have HE0:=Zz (up_esc_none stop lit true b (s.drop (k + 1)) b1 b2);have HE1:=Zz (fun o r=>up_esc stop lit true b (s.drop (k + 1)) o r b1 b2);clear b1 b2;go_wp2_with fail;rw [HX.o];refine (esc_calls (s.drop (k + 1)) lit (by rw [HDL.o];omega) _).mono ?_;rintro e w1 ⟨⟨o,n,rfl,he⟩,hb1⟩;have HS1:=Zz (HS.o.below hb1);clear c0 c1 f0 f1 HS hb1;obtain ⟨c0,c1,f0,f1,_⟩:=HS1.o.at';rcases he with ⟨rfl,rfl,he⟩ | ⟨hn1,hn2,he,hol⟩
     ·
      have HR:=Zz (HU.o.trans (by rw [HE0.o he]));clear he HU;go_wp2_with fail;refine (fail_calls rb s bad _ HS1.o.at').mono ?_;rintro e w2 ⟨rfl,hs2⟩;have HS2:=Zz (HS1.o.trans hs2);clear hs2;go_wp2;go_ret;rw [HR.o];exact ⟨rfl,HS2.o⟩
     ·
      have HR:=Zz (HU.o.trans (by rw [HE1.o o _ he]));rw [HDL.o] at hn2;clear he HU;have hn0:((n:Int) == 0) = false:=by rw [Zb];omega
      have zo2:=mkS_size o;have HO:=Zz (mkS_append out o);have i5:(n:Int) + (k:Int) + 1 <= (s.length:Int):=by omega
      go_wp2;go_roundg (s.length + 1 - (k + n + 1))
      case measure=>have:=HN.o;omega
      case rel=>exact ⟨k + n + 1,out ++ o,by omega,Zz rfl,by go_num,by rw [HO.o],by simp;omega,HS1,Zz (by
       rw [HR.o,List.drop_drop,Option.map_map,show k + 1 + n = k + n + 1 from by omega];congr 1;funext x;simp)⟩
    ·
     have e2:((b.toNat:Int) == 92) = false:=by
      rw [Zb];intro e;exact b2 (UInt8.toNat_inj.1 (by show b.toNat = 92;omega))
     by_cases b3:b = 10 \/ b = 13
     ·
      have HR:=Zz (HU.o.trans (by rw [up_line stop lit true b _ b1 b2 ⟨rfl,b3⟩]));clear HU;have h3:((b.toNat:Int) == 10) = true \/ ((b.toNat:Int) == 10) = false/\((b.toNat:Int) == 13) = true:=by
       rcases b3 with rfl | rfl
       ·
        exact .inl rfl
       ·
        exact .inr ⟨rfl,rfl⟩
      clear b1 b2 b3;rcases h3 with h3 | ⟨h3,h4⟩
      all_goals
       go_wp2_with fail;refine (fail_calls rb s bad _ HS.o.at').mono ?_;rintro e w2 ⟨rfl,hs2⟩;have HS2:=Zz (HS.o.trans hs2);clear hs2;go_wp2;go_ret;rw [HR.o];exact ⟨rfl,HS2.o⟩
     ·
      have HR:=Zz (HU.o.trans (by rw [up_other stop lit true b _ b1 b2 (fun h=>b3 h.2)]));have h3:((b.toNat:Int) == 10) = false:=by
       rw [Zb];intro e;exact b3 (.inl (UInt8.toNat_inj.1 (by show b.toNat = 10;omega)))
      have h4:((b.toNat:Int) == 13) = false:=by
       rw [Zb];intro e;exact b3 (.inr (UInt8.toNat_inj.1 (by show b.toNat = 13;omega)))
      have HO:=Zz (mkS_append out [b]);have zx:((mkS s).extract k (k + 1)).size = 1:=by rw [HY.o];rfl
      clear HU b1 b2 b3;go_wp2;go_roundg (s.length + 1 - (k + 1))
      case measure=>have:=HN.o;omega
      case rel=>exact ⟨k + 1,out ++ [b],by omega,Zz rfl,by go_num,by rw [HY.o,HO.o],by simp;omega,HS,Zz (by
       rw [HR.o,Option.map_map];congr 1;funext x;simp)⟩
  ·
   obtain rfl:k = s.length:=by omega
   have HR:=Zz (HU.o.trans (by rw [List.drop_length,up_nil]));clear HU;go_wp2_with fail;refine (fail_calls rb s bad _ HS.o.at').mono ?_;rintro e w2 ⟨rfl,hs2⟩;have HS2:=Zz (HS.o.trans hs2);clear hs2;go_wp2;go_ret;rw [HR.o];exact ⟨rfl,HS2.o⟩
end Ref5
namespace Ref5
open Go.RowKit Go.Lib B Rd Utf TermPure LinesPure Tx Env
theorem isIRI_no (s:List UInt8) (h:validD s = false \/ s = [] \/ 60 < s.length):isIRI s = false:=by
 unfold isIRI;rcases h with h | h | h
 ·
  rw [h];simp
 ·
  subst h;rfl
 ·
  rw [dF (by omega:¬ s.length <= 60)];simp
theorem isIRI_runes (s:List UInt8) (h:validD s = true) (h1:s ≠ []) (h2:s.length <= 60):isIRI s = (runes s).all iriRune:=by
 unfold isIRI;rw [h,dT h1,dT h2];simp
theorem decodeL_rune_le (l:List UInt8):(decodeL l).1 <= 1114111:=by
 have:=Lib.rune_le (mkS l) 0;rw [<- decodeL_drop (mkS l) 0] at this;exact this
theorem runesGo_le:∀ (f:Nat) (l:List UInt8),∀ c ∈ runesGo f l,c <= 1114111
 | 0,l,c,h=>by rw [runesGo] at h;cases h
 | f + 1,l,c,h=>by
  rw [runesGo] at h
  split at h
  ·
   cases h
  ·
   rcases List.mem_cons.1 h with rfl | h
   ·
    exact decodeL_rune_le l
   ·
    exact runesGo_le f _ c h
theorem isIRI_calls (s:List UInt8) (hs:s.length <= 140737488355328) (w:World) (he:Env w) :
  Calls Tryz.prog 124 #[.string (mkS s)] w fun e w'=>e = .returned (.bool (isIRI s))/\Below w.heap.size w w':=by
 have z:=mkS_size s;have HE:=Zz he;have hn:=isIRI_no s;have hr:=isIRI_runes s;have HN:=Zz hn;have HR:=Zz hr;clear hn hr he;go_enter func124,ntmps124;go_wp2_with fail;refine (valid_calls s (by omega) _ HE.o).mono ?_;rintro e w1 ⟨rfl,hb1⟩;have HB1:=Zz hb1;clear hb1;cases hv:validD s with
 | false =>
  have HF:=Zz (HN.o (.inl hv));clear hv;go_wp2;go_ret;exact ⟨ret_bool HF.o.symm,HB1.o⟩
 | true =>
  by_cases h1:s = []
  ·
   have HF:=Zz (HN.o (.inr (.inl h1)));have hl:decide ((s.length:Int) < 1) = true:=dT (by rw [h1];decide);clear hv h1;go_wp2;go_ret;exact ⟨ret_bool HF.o.symm,HB1.o⟩
  ·
   have hl0:0 < s.length:=List.length_pos_iff.2 h1;have hl:decide ((s.length:Int) < 1) = false:=dF (by omega);by_cases h2:s.length <= 60
   ·
    have hl2:decide ((60:Int) < (s.length:Int)) = false:=dF (by omega);have HF:=Zz (HR.o hv h1 h2);obtain ⟨cap,C,hc1,hc2,hcv,hC⟩:=runes_conv s (by omega) w1;have hle:=runesGo_le s.length s;have hRl:=runes_len s;have hle':∀ c ∈ runes s,c <= 1114111:=hle;generalize runes s = R at *;have HC:=Zz hC;have HLE:=Zz hle';clear hv h1 hle hle' hC HN HR;have HB2:Hid (Below w.heap.size w ((w1.alloc (.cells C 21)).drew)):=Zz (bel_drew (bel_alloc HB1.o _));go_wp2;go_loopw [4] (fun vi wr=>∃ k:Nat,k <= R.length/\vi = .int .i64 k/\wr = (w1.alloc (.cells C 21)).drew/\Hid ((R.take k).all iriRune = true)) (fun vi _=>R.length - (intOf vi).toNat)
    case atStart=>exact ⟨0,by omega,rfl,by first | rfl | trivial,Zz rfl⟩
    case round =>
     obtain ⟨k,hk,rfl,rfl,HA⟩:=hrel;have hRb:R.length <= 60:=by omega
     by_cases hlt:k < R.length
     ·
      have hd:decide (k < R.length) = true:=dT hlt;have ik:(k:Int) < (R.length:Int):=by omega
      have ik0:(0:Int) <= (k:Int):=by omega
      obtain ⟨n,hn0⟩:∃ n,R[k] = n:=⟨_,rfl⟩;have hcell:((w1.alloc (.cells C 21)).drew).cell? ⟨w1.heap.size,k,none⟩ = some (.int .i32 (n:Int)):=by
       unfold World.cell?;dsimp only;rw [show ((w1.alloc (.cells C 21)).drew).heap = (w1.alloc (.cells C 21)).heap from rfl,Kd.heap_new];dsimp only;rw [<- hn0];exact HC.o k hlt
      have hgl:Hid (R.take (k + 1) = R.take k ++ [n]):=Zz (by rw [Zt hlt,hn0]);have hnl:n <= 1114111:=HLE.o n (by rw [<- hn0];exact Zm hlt);have HNo:Hid (iriRune n = false -> R.all iriRune = false):=Zz (fun h=>by
       rw [List.all_eq_false];exact ⟨n,by rw [<- hn0];exact Zm hlt,by simp [h]⟩)
      clear hn0;go_wp2_with fail;refine (Ref4.iriRune_calls n hnl _).mono ?_;rintro e w3 ⟨rfl,rfl⟩;cases hb:iriRune n with
      | true =>
       have HA2:=Zz (show (R.take (k + 1)).all iriRune = true by rw [hgl.o,List.all_append,HA.o];simp [hb]);go_wp2;go_roundw
       case rel=>exact ⟨k + 1,by omega,by go_num,by first | rfl | trivial,HA2⟩
       case measure=>simp [intOf];omega
      | false =>
       have HF2:=Zz (HF.o.trans (HNo.o hb));go_wp2;go_ret;exact ⟨ret_bool HF2.o.symm,HB2.o⟩
     ·
      obtain rfl:k = R.length:=by omega
      rw [List.take_length] at HA;have HF2:=Zz (HF.o.trans HA.o);go_wp2;go_ret;exact ⟨ret_bool HF2.o.symm,HB2.o⟩
   ·
    have hl2:decide ((60:Int) < (s.length:Int)) = true:=dT (by omega);have HF:=Zz (HN.o (.inr (.inr (by omega))));clear hv h1;go_wp2;go_ret;exact ⟨ret_bool HF.o.symm,HB1.o⟩
def termV (t:Term):Value:=.agg #[.int .i64 t.kind,.string (mkS t.text),.string (mkS t.extra)]
def Fits (t:Term):Prop:=(-9223372036854775808 <= t.kind/\t.kind <= 9223372036854775807)/\t.text.length <= 70368744177664/\t.extra.length <= 70368744177664
def FitsB (t:Term):Prop:=(-9223372036854775808 <= t.kind/\t.kind <= 9223372036854775807)/\t.text.length <= 140737488355328/\t.extra.length <= 140737488355328
theorem is4w_calls (t:Term) (ht:FitsB t) (w:World) (he:Env w) :
  Calls Tryz.prog 83 #[termV t] w fun e w'=>e = .returned (.bool (is t))/\Below w.heap.size w w':=by
 obtain ⟨kind,x,ex⟩:=t;obtain ⟨_,hx,hex⟩:=ht;dsimp only at *;have zx:=mkS_size x;have ze:=mkS_toList ex;have HE:=Zz he;have HI:Hid (is ⟨kind,x,ex⟩ = if kind = 1 then isIRI x && decide (ex = [])
  else if kind = 2 then isLabel x && decide (ex = [])
  else if kind = 3 then isText x && decide (ex = [])
  else if kind = 4 then isText x && isLang ex
  else if kind = 5 then isText x && isIRI ex
  else false):=Zz rfl
 obtain ⟨xe,hxe⟩:∃ xe:Bool,decide (ex = []) = xe:=⟨_,rfl⟩;have hee:ex.isEmpty = xe:=by rw [<- hxe];cases ex <;> rfl
 rw [hxe] at HI;clear he hxe;unfold termV;dsimp only;go_enter func83,ntmps83;go_upto_region 1 with fail
 go_cut [3] (fun v3 wx=>v3 = .bool (isText x)/\Hid (Below (w.heap.size + 1) (w.alloc (.cells #[.int .i64 kind,.string (mkS x),.string (mkS ex)] 24)) wx))
 case first =>
  clear hee HI;go_wp2_with fail;refine (valid_calls x (by omega) _ (HE.o.below ((bR _ _).alloc (lR _) _))).mono ?_;rintro e w1 ⟨rfl,hb1⟩;obtain ⟨hc1,hf1⟩:=bcell hb1;have HB1:=Zz hb1;have HT:Hid (isText x = (decide (x.length <= 30) && validD x)):=Zz rfl;clear hb1;cases hv:validD x with
  | false =>
   have HT2:=Zz (show isText x = false by rw [HT.o,hv];simp);go_wp2;go_meet;exact ⟨by rw [HT2.o],Zz (by simpa using HB1.o)⟩
  | true =>
   have HT2:=Zz (show isText x = decide ((x.length:Int) <= 30) by rw [HT.o,hv,Bool.and_true,Bool.eq_iff_iff,decide_eq_true_iff,decide_eq_true_iff];omega);go_wp2;go_meet;exact ⟨by rw [HT2.o],Zz (by simpa using HB1.o)⟩
 case rest =>
  obtain ⟨rfl,HB⟩:=hcut;have hb1:=HB.o;have hb1':Below (w.alloc (.cells #[.int .i64 kind,.string (mkS x),.string (mkS ex)] 24)).heap.size (w.alloc (.cells #[.int .i64 kind,.string (mkS x),.string (mkS ex)] 24)) wc:=by simpa using hb1
  obtain ⟨hc1,hf1⟩:=bcell hb1';have HW:=Zz (show Below w.heap.size w wc from ((bR _ _).alloc (lR _) _).trans (hb1.mono (by omega)));have HE1:=Zz (HE.o.below HW.o);have WC:w.heap.size < wc.heap.size:=by have:=hb1.size;simp at this;omega
  clear hb1 hb1' HB HE;generalize isText x = tx at *;by_cases k1:kind = 1
  ·
   subst k1;have HF:=Zz (HI.o.trans (if_pos rfl));clear HI;go_wp2_with fail;refine (isIRI_calls x (by omega) _ HE1.o).mono ?_;rintro e w2 ⟨rfl,hb2⟩;obtain ⟨hc2,hf2⟩:=bcell hb2;have hz2:=hb2.size;have HW2:=Zz (bel_step HW.o hb2);have hz1:w.heap.size < wc.heap.size:=WC;clear hb2;generalize isIRI x = r at *;cases r
   all_goals go_wp2
   all_goals go_ret
   all_goals exact ⟨ret_bool (by rw [HF.o];simp [*]),HW2.o⟩
  ·
   have e1:(kind == 1) = false:=by rw [Zb];exact k1
   by_cases k2:kind = 2
   ·
    subst k2;have HF:=Zz (HI.o.trans ((if_neg (by decide)).trans (if_pos rfl)));clear HI;go_wp2_with fail;refine (Ref4.label_calls x (by omega) _).mono ?_;rintro e w2 ⟨rfl,rfl⟩;have HW2:=HW;generalize isLabel x = r at *;cases r
    all_goals go_wp2
    all_goals go_ret
    all_goals exact ⟨ret_bool (by rw [HF.o];simp [*]),HW2.o⟩
   ·
    have e2:(kind == 2) = false:=by rw [Zb];exact k2
    by_cases k3:kind = 3
    ·
     subst k3;have HF:=Zz (HI.o.trans ((if_neg (by decide)).trans ((if_neg (by decide)).trans (if_pos rfl))));clear HI;cases tx with
     | false =>
      go_wp2
      all_goals go_ret
      all_goals exact ⟨ret_bool (by rw [HF.o];simp [*]),HW.o⟩
     | true =>
      go_wp2
      all_goals go_ret
      all_goals exact ⟨ret_bool (by rw [HF.o];simp [*]),HW.o⟩
    ·
     have e3:(kind == 3) = false:=by rw [Zb];exact k3
     by_cases k4:kind = 4
     ·
      subst k4;have HF:=Zz (HI.o.trans ((if_neg (by decide)).trans ((if_neg (by decide)).trans ((if_neg (by decide)).trans (if_pos rfl)))));clear HI;cases tx with
      | false =>
       go_wp2
       all_goals go_ret
       all_goals exact ⟨ret_bool (by rw [HF.o];simp [*]),HW.o⟩
      | true =>
       go_wp2_with fail;refine (Ref4.lang_calls ex (by omega) _).mono ?_;rintro e w2 ⟨rfl,hb2⟩;obtain ⟨hc2,hf2⟩:=bcell hb2;have hz2:=hb2.size;have HW2:=Zz (bel_step HW.o hb2);have hz1:w.heap.size < wc.heap.size:=WC;clear hb2;generalize isLang ex = r at *;cases r
       all_goals go_wp2
       all_goals go_ret
       all_goals exact ⟨ret_bool (by rw [HF.o];simp [*]),HW2.o⟩
     ·
      have e4:(kind == 4) = false:=by rw [Zb];exact k4
      by_cases k5:kind = 5
      ·
       subst k5;have HF:=Zz (HI.o.trans ((if_neg (by decide)).trans ((if_neg (by decide)).trans ((if_neg (by decide)).trans ((if_neg (by decide)).trans (if_pos rfl))))));clear HI;cases tx with
       | false =>
        go_wp2
        all_goals go_ret
        all_goals exact ⟨ret_bool (by rw [HF.o];simp [*]),HW.o⟩
       | true =>
        go_wp2_with fail;refine (isIRI_calls ex (by omega) _ HE1.o).mono ?_;rintro e w2 ⟨rfl,hb2⟩;obtain ⟨hc2,hf2⟩:=bcell hb2;have hz2:=hb2.size;have HW2:=Zz (bel_step HW.o hb2);have hz1:w.heap.size < wc.heap.size:=WC;clear hb2;generalize isIRI ex = r at *;cases r
        all_goals go_wp2
        all_goals go_ret
        all_goals exact ⟨ret_bool (by rw [HF.o];simp [*]),HW2.o⟩
      ·
       have e5:(kind == 5) = false:=by rw [Zb];exact k5
       have HF:=Zz (HI.o.trans ((if_neg k1).trans ((if_neg k2).trans ((if_neg k3).trans ((if_neg k4).trans (if_neg k5))))));clear HI;go_wp2;go_ret;exact ⟨ret_bool HF.o.symm,HW.o⟩
theorem is4_calls (t:Term) (ht:Fits t) (w:World) (he:Env w) :
  Calls Tryz.prog 83 #[termV t] w fun e w'=>e = .returned (.bool (is t))/\Below w.heap.size w w':=is4w_calls t (by obtain ⟨h1,h2,h3⟩:=ht;exact ⟨h1,by omega,by omega⟩) w he
end Ref5
end Go.Proofs.YtnplommdgfgboaaGreatDoor
