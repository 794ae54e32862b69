/-
  Texts of the claim, one behind the other: FrontP, PackP, CrcPure, BoxPure, StoreP, FrontW, FrontB, IdsW, IdsAll, RingAll, CrcWalk, CrcLaws, BoxWalk, BoxPack, Encode, SCommon.
-/
import Derived.Test.YtnplommdgfgboaaGreatDoorJ6
import Derived.Lib.ItoaNum
import Derived.Test.YtnplommdgfgboaaGreatDoorProg
import Derived.WalkKit
import Derived.KernelRfl
import Derived.Lib.Hide
import Derived.Deep.LoopGhost
import Derived.Lib.SlBytesConst
import Derived.Deep.QuietTactic
import Derived.BigQuiet
import Derived.WalkSpells
import Derived.Deep.DeepCutAuto
import Derived.Deep.RegionWith
set_option linter.unusedVariables false
set_option linter.unusedSimpArgs false
set_option maxHeartbeats 25600000
set_option maxRecDepth 100000
open Go.Proofs.Tryz
namespace Go.Proofs.YtnplommdgfgboaaGreatDoor
namespace FrontP
def shared:List UInt8 -> List UInt8 -> Nat
 | a :: l,b :: m=>if a = b then shared l m + 1 else 0
 | _,_=>0
theorem shared_left:∀ a b:List UInt8,shared a b <= a.length
 | [],_=>by simp [shared]
 | a :: l,[]=>by simp [shared]
 | a :: l,b :: m=>by
  have:=shared_left l m
  rw [shared]
  split <;> simp <;> omega
theorem shared_right:∀ a b:List UInt8,shared a b <= b.length
 | [],_=>by simp [shared]
 | a :: l,[]=>by simp [shared]
 | a :: l,b :: m=>by
  have:=shared_right l m
  rw [shared]
  split <;> simp <;> omega
theorem shared_take:∀ a b:List UInt8,a.take (shared a b) = b.take (shared a b)
 | [],b=>by simp [shared]
 | a :: l,[]=>by simp [shared]
 | a :: l,b :: m=>by
  have:=shared_take l m
  rw [shared]
  split
  ·
   rename_i h
   rw [List.take_succ_cons,List.take_succ_cons,this,h]
  ·
   simp
theorem shared_at:∀ (a b:List UInt8) (n:Nat),n <= a.length -> n <= b.length -> a.take n = b.take n -> (∀ (h:n < a.length) (h':n < b.length),a[n] ≠ b[n]) -> shared a b = n
 | [],b,n,h,_,_,_=>by simp at h;subst h;simp [shared]
 | a :: l,[],n,_,h,_,_=>by simp at h;subst h;simp [shared]
 | a :: l,b :: m,0,_,_,_,hne=>by
  have:=hne (by simp) (by simp)
  simp at this
  rw [shared,if_neg this]
 | a :: l,b :: m,n + 1,h1,h2,he,hne=>by
  rw [List.take_succ_cons,List.take_succ_cons] at he
  injection he with e1 e2
  rw [shared,if_pos e1,shared_at l m n (by simpa using h1) (by simpa using h2) e2 (fun h h'=>by have:=hne (by simp;omega) (by simp;omega);rw [List.getElem_cons_succ,List.getElem_cons_succ] at this;exact this)]
def outN (l:List (List UInt8)) (i:Nat):Nat:=if i % 4 = 0 then 0 else shared (l.getD (i - 1) []) (l.getD i [])
def piece (l:List (List UInt8)) (i:Nat):List UInt8:=UInt8.ofNat (outN l i) :: UInt8.ofNat ((l.getD i []).length - outN l i) :: (l.getD i []).drop (outN l i)
def upTo (l:List (List UInt8)) (k:Nat):List UInt8:=(List.range k).flatMap (piece l)
def headN (n:Nat):List UInt8:=[UInt8.ofNat (n / 256),UInt8.ofNat (n % 256)]
def frontB (l:List (List UInt8)):List UInt8:=headN l.length ++ upTo l l.length
theorem upTo_succ (l:List (List UInt8)) (k:Nat):upTo l (k + 1) = upTo l k ++ piece l k:=by
 unfold upTo;rw [List.range_succ,List.flatMap_append];simp
theorem outN_le (l:List (List UInt8)) (i:Nat):outN l i <= (l.getD i []).length:=by
 unfold outN
 split
 ·
  omega
 ·
  exact shared_right _ _
theorem piece_len (l:List (List UInt8)) (i:Nat):(piece l i).length <= 2 + (l.getD i []).length:=by
 unfold piece;simp;omega
theorem upTo_len {l:List (List UInt8)} {b:Nat} (h:∀ x ∈ l,x.length <= b):∀ k,k <= l.length -> (upTo l k).length <= k * (b + 2)
 | 0,_=>by simp [upTo]
 | k + 1,hk=>by
  have h1:=upTo_len h k (by omega);have h2:=piece_len l k;have h3:(l.getD k []).length <= b:=by
   rw [List.getD_eq_getElem?_getD,Zg (by omega)];exact h _ (Zm _)
  rw [upTo_succ,Zl,Nat.succ_mul];omega
theorem byte_inj {a b:Nat} (ha:a < 256) (hb:b < 256) (h:UInt8.ofNat a = UInt8.ofNat b):a = b:=by
 have:=congrArg UInt8.toNat h;simp at this;omega
theorem head_inj {a b:Nat} (ha:a < 65536) (hb:b < 65536) (h:headN a = headN b):a = b:=by
 unfold headN at h;injection h with h1 h2;injection h2 with h2 _;have:=byte_inj (by omega) (by omega) h1;have:=byte_inj (by omega) (by omega) h2;omega
def from' (l:List (List UInt8)) (k n:Nat):List UInt8:=(List.range' k n).flatMap (piece l)
theorem from_inj (l m:List (List UInt8)) (hl:∀ x ∈ l,x.length < 256) (hm:∀ x ∈ m,x.length < 256) (hlen:l.length = m.length) :
  ∀ (n k:Nat),k + n = l.length -> l.take k = m.take k -> from' l k n = from' m k n -> l = m
 | 0,k,hk,ht,_=>by
  rw [List.take_of_length_le (by omega),List.take_of_length_le (by omega)] at ht;exact ht
 | n + 1,k,hk,ht,he=>by
  unfold from' at he;rw [List.range'_succ,List.flatMap_cons,List.flatMap_cons] at he;have hkl:k < l.length:=by omega
  have hkm:k < m.length:=by omega
  have gl:l.getD k [] = l[k]:=by rw [List.getD_eq_getElem?_getD,Zg hkl];rfl
  have gm:m.getD k [] = m[k]:=by rw [List.getD_eq_getElem?_getD,Zg hkm];rfl
  have bl:=hl _ (Zm hkl);have bm:=hm _ (Zm hkm);have ol:=outN_le l k;have om:=outN_le m k;have hprev:l.getD (k - 1) [] = m.getD (k - 1) [] \/ k = 0:=by
   by_cases h0:k = 0
   ·
    exact .inr h0
   ·
    left;have e1:l[k - 1]? = m[k - 1]?:=by
     have h1:(l.take k)[k - 1]? = (m.take k)[k - 1]?:=by rw [ht]
     rwa [List.getElem?_take_of_lt (by omega),List.getElem?_take_of_lt (by omega)] at h1
    rw [List.getD_eq_getElem?_getD,List.getD_eq_getElem?_getD,e1]
  rw [gl] at ol;rw [gm] at om;have key:l[k] = m[k]/\(List.range' (k + 1) n).flatMap (piece l) = (List.range' (k + 1) n).flatMap (piece m):=by
   unfold piece at he;simp only [List.cons_append] at he;injection he with e1 he;injection he with e2 he;rw [gl,gm] at e2 he;have n1:=byte_inj (by omega) (by omega) e1;have n2:=byte_inj (by omega) (by omega) e2;have hdl:(l[k].drop (outN l k)).length = (m[k].drop (outN m k)).length:=by simp;omega
   obtain ⟨e3,e4⟩:=List.append_inj he hdl;refine ⟨?_,e4⟩
   rw [n1] at e3;rw [<- List.take_append_drop (outN m k) l[k],<- List.take_append_drop (outN m k) m[k],e3];congr 1;by_cases h4:k % 4 = 0
   ·
    have:outN m k = 0:=by unfold outN;rw [if_pos h4]
    rw [this];simp
   ·
    have hk0:k ≠ 0:=fun h=>h4 (by rw [h])
    have hp:=hprev.resolve_right hk0;have s1:=shared_take (l.getD (k - 1) []) (l.getD k []);have s2:=shared_take (m.getD (k - 1) []) (m.getD k []);have o1:outN l k = shared (l.getD (k - 1) []) (l.getD k []):=by unfold outN;rw [if_neg h4]
    have o2:outN m k = shared (m.getD (k - 1) []) (m.getD k []):=by unfold outN;rw [if_neg h4]
    rw [<- o1,n1,gl] at s1;rw [<- o2,gm] at s2;rw [<- s1,<- s2,hp]
  refine from_inj l m hl hm hlen n (k + 1) (by omega) ?_ key.2;rw [Zt hkl,Zt hkm,ht,key.1]
theorem frontB_inj {l m:List (List UInt8)} (hl:∀ x ∈ l,x.length < 256) (hm:∀ x ∈ m,x.length < 256) (h1:l.length < 65536) (h2:m.length < 65536) (h:frontB l = frontB m):l = m:=by
 unfold frontB at h;obtain ⟨e1,e2⟩:=List.append_inj h (by simp [headN]);have hlen:=head_inj h1 h2 e1;refine from_inj l m hl hm hlen l.length 0 (by omega) rfl ?_;unfold from';unfold upTo at e2;rw [List.range_eq_range',List.range_eq_range',<- hlen] at e2;exact e2
end FrontP
namespace PackP
open PackW
def bitB (b:List UInt8) (j:Nat):Bool:=(b[j / 8]?.getD 0).toNat.testBit (j % 8)
theorem bitAt_eq (n k:Nat):bitAt n k = (n.testBit k).toNat:=by
 unfold bitAt;rw [Nat.toNat_testBit]
theorem bit_orAt (b:List UInt8) (a j:Nat) (v:Bool) (ha:a / 8 < b.length):bitB (orAt b a v.toNat) j = (bitB b j || (decide (j = a) && v)):=by
 unfold bitB orAt;by_cases hq:j / 8 = a / 8
 ·
  rw [hq,List.getElem?_set_self ha];simp only [Option.getD_some];rw [UInt8.toNat_or,Nat.testBit_or];congr 1;have hm:a % 8 < 8:=Nat.mod_lt _ (by decide);cases v
  ·
   simp
  ·
   have h2:(2:Nat) ^ (a % 8) < 256:=by
    have:(2:Nat) ^ (a % 8) <= 2 ^ 7:=Nat.pow_le_pow_right (by decide) (by omega);omega
   rw [show true.toNat * 2 ^ (a % 8) = 2 ^ (a % 8) by simp,UInt8.toNat_ofNat',Nat.mod_eq_of_lt (by omega),Nat.testBit_two_pow,Bool.and_true];by_cases e:j = a
   ·
    subst e;simp
   ·
    rw [dF e,dF (by omega)]
 ·
  rw [List.getElem?_set_ne (fun h=>hq h.symm)];have:¬ j = a:=fun h=>hq (by rw [h])
  rw [dF this];simp
theorem bit_num (b:List UInt8) (f n:Nat):∀ k,f + k <= 8 * b.length -> ∀ j,bitB (packNum b f n k) j = (bitB b j || (decide (f <= j) && (decide (j < f + k) && n.testBit (j - f))))
 | 0,_,j=>by
  have h:(decide (f <= j) && (decide (j < f + 0) && n.testBit (j - f))) = false:=by
   by_cases h1:f <= j
   ·
    rw [dF (show ¬ j < f + 0 by omega)];simp
   ·
    rw [dF h1];simp
  rw [packNum,h,Bool.or_false]
 | k + 1,hk,j=>by
  rw [packNum,bitAt_eq,bit_orAt _ _ _ _ (by rw [packNum_len];omega),bit_num b f n k (by omega) j];by_cases e:j = f + k
  ·
   subst e;rw [dT (show f <= f + k by omega),dF (show ¬ f + k < f + k by omega),dT (show f + k < f + (k + 1) by omega),show f + k - f = k by omega];simp
  ·
   rw [dF e];by_cases h1:j < f + k
   ·
    rw [dT h1,dT (show j < f + (k + 1) by omega)];simp
   ·
    rw [dF h1,dF (show ¬ j < f + (k + 1) by omega)];simp
theorem bit_F (l:List Nat) (wd:Nat) (hw:0 < wd):∀ i,i <= l.length -> ∀ j,bitB (packF l wd i) j = (decide (j < i * wd) && (l[j / wd]?.getD 0).testBit (j % wd))
 | 0,_,j=>by
  have:bitB (packF l wd 0) j = false:=by
   unfold bitB packF;rw [List.getElem?_replicate]
   split <;> simp
  rw [this];simp
 | i + 1,hi,j=>by
  have hle:i * wd + wd <= l.length * wd:=by
   have:=Nat.mul_le_mul_right wd hi
   rwa [Nat.succ_mul] at this
  rw [packF,bit_num _ _ _ _ (by rw [packF_len];omega),bit_F l wd hw i (by omega) j,Nat.succ_mul];by_cases h1:j < i * wd
  ·
   rw [dT h1,dF (show ¬ i * wd <= j by omega),dT (show j < i * wd + wd by omega)];simp
  ·
   rw [dF h1,dT (show i * wd <= j by omega)];by_cases h2:j < i * wd + wd
   ·
    rw [dT h2];have hdiv:j / wd = i:=by
     apply Nat.div_eq_of_lt_le
     ·
      omega
     ·
      rw [Nat.succ_mul];omega
    have hmod:j % wd = j - i * wd:=by
     have:=Nat.div_add_mod j wd;rw [hdiv,Nat.mul_comm] at this;omega
    rw [hdiv,hmod];simp
   ·
    rw [dF h2];simp
theorem bit_at (l:List Nat) (wd:Nat) (hw:0 < wd) (i k:Nat) (hi:i < l.length) (hk:k < wd):bitB (packB l wd) (i * wd + k) = l[i].testBit k:=by
 unfold packB;have hle:i * wd + wd <= l.length * wd:=by
  have:=Nat.mul_le_mul_right wd (show i + 1 <= l.length by omega)
  rwa [Nat.succ_mul] at this
 rw [bit_F l wd hw _ (lR _),dT (by omega)];have hdiv:(i * wd + k) / wd = i:=by
  apply Nat.div_eq_of_lt_le
  ·
   omega
  ·
   rw [Nat.succ_mul];omega
 have hmod:(i * wd + k) % wd = k:=by
  rw [Nat.mul_comm,Nat.mul_add_mod,Nat.mod_eq_of_lt hk]
 rw [hdiv,hmod,Zg hi];simp
theorem packB_inj {l m:List Nat} {wd:Nat} (hlen:l.length = m.length) (hl:∀ n ∈ l,n < 2 ^ wd) (hm:∀ n ∈ m,n < 2 ^ wd) (h:packB l wd = packB m wd):l = m:=by
 refine List.ext_getElem hlen fun i h1 h2=>?_
 have bl:=hl _ (Zm h1);have bm:=hm _ (Zm h2);by_cases hw:0 < wd
 ·
  refine Nat.eq_of_testBit_eq fun k=>?_
  by_cases hk:k < wd
  ·
   rw [<- bit_at l wd hw i k h1 hk,<- bit_at m wd hw i k h2 hk,h]
  ·
   rw [Nat.testBit_lt_two_pow (Nat.lt_of_lt_of_le bl (Nat.pow_le_pow_right (by decide) (by omega))),Nat.testBit_lt_two_pow (Nat.lt_of_lt_of_le bm (Nat.pow_le_pow_right (by decide) (by omega)))]
 ·
  obtain rfl:wd = 0:=by omega
  simp at bl bm;omega
theorem packB_len (l:List Nat) (wd:Nat):(packB l wd).length = (l.length * wd + 7) / 8:=packF_len l wd _
end PackP
namespace CrcPure
def sh (x:Nat):Nat:=if 16777216 <= 2 * x then (2 * x) ^^^ 25578747 else 2 * x
def shN:Nat -> Nat -> Nat
 | 0,x=>x
 | k + 1,x=>shN k (sh x)
def cstep (x:Nat) (c:UInt8):Nat:=shN 8 (x ^^^ (c.toNat * 65536))
theorem cstep_eq (x:Nat) (c:UInt8):cstep x c = shN 8 (x ^^^ (c.toNat * 65536)):=rfl
theorem shN_succ (k x:Nat):shN (k + 1) x = shN k (sh x):=rfl
theorem shN_zero (x:Nat):shN 0 x = x:=rfl
attribute [irreducible] shN cstep
def sumFrom:Nat -> List UInt8 -> Nat
 | x,[]=>x
 | x,c :: l=>sumFrom (cstep x c) l
theorem sumFrom_nil (x:Nat):sumFrom x [] = x:=rfl
theorem sumFrom_cons (x:Nat) (c:UInt8) (l:List UInt8):sumFrom x (c :: l) = sumFrom (cstep x c) l:=rfl
def init:Nat:=11994318
theorem init_lt:init < 16777216:=by unfold init;omega
def crc (l:List UInt8):Nat:=sumFrom init l
theorem xor_lt24 {a b:Nat} (ha:a < 16777216) (hb:b < 16777216):a ^^^ b < 16777216:=by
 have h:=Nat.xor_lt_two_pow (x:=a) (y:=b) (n:=24) (by omega) (by omega);omega
theorem xor_lt25 {a b:Nat} (ha:a < 33554432) (hb:b < 33554432):a ^^^ b < 33554432:=by
 have h:=Nat.xor_lt_two_pow (x:=a) (y:=b) (n:=25) (by omega) (by omega);omega
theorem testBit_high {x:Nat} (h1:16777216 <= x) (h2:x < 33554432):x.testBit 24 = true:=by
 rw [Nat.testBit_eq_decide_div_mod_eq];simp only [decide_eq_true_eq];have:x / 2 ^ 24 = 1:=by omega
 rw [this]
theorem testBit_low {x:Nat} (h:x < 16777216):x.testBit 24 = false:=Nat.testBit_lt_two_pow (by omega)
theorem sh_lt {x:Nat} (h:x < 16777216):sh x < 16777216:=by
 unfold sh
 split
 ·
  rename_i h1
  have hx:2 * x ^^^ 25578747 < 33554432:=xor_lt25 (by omega) (by omega);refine Nat.lt_of_not_le fun hge=>?_
  have e:=testBit_high hge hx;rw [Nat.testBit_xor,testBit_high h1 (by omega),testBit_high (x:=25578747) (by omega) (by omega)] at e;cases e
 ·
  omega
theorem shN_lt (k:Nat):∀ {x:Nat},x < 16777216 -> shN k x < 16777216:=by
 induction k with
 | zero=>intro x h;rw [shN_zero];exact h
 | succ k ih=>intro x h;rw [shN_succ];exact ih (sh_lt h)
theorem byte_lt (c:UInt8):c.toNat * 65536 < 16777216:=by
 have:=c.toNat_lt;omega
theorem in_lt {x:Nat} (h:x < 16777216) (c:UInt8):x ^^^ (c.toNat * 65536) < 16777216:=xor_lt24 h (byte_lt c)
theorem cstep_lt {x:Nat} (h:x < 16777216) (c:UInt8):cstep x c < 16777216:=by rw [cstep_eq];exact shN_lt 8 (in_lt h c)
theorem sumFrom_lt (l:List UInt8):∀ {x:Nat},x < 16777216 -> sumFrom x l < 16777216:=by
 induction l with
 | nil=>intro x h;rw [sumFrom_nil];exact h
 | cons c l ih=>intro x h;rw [sumFrom_cons];exact ih (cstep_lt h c)
theorem crc_lt (l:List UInt8):crc l < 16777216:=sumFrom_lt l init_lt
theorem sumFrom_append (a b:List UInt8):∀ x:Nat,sumFrom x (a ++ b) = sumFrom (sumFrom x a) b:=by
 induction a with
 | nil=>intro x;rfl
 | cons c a ih=>intro x;rw [List.cons_append,sumFrom_cons,sumFrom_cons,ih]
theorem sumFrom_snoc (a:List UInt8) (c:UInt8) (x:Nat):sumFrom x (a ++ [c]) = cstep (sumFrom x a) c:=by rw [sumFrom_append,sumFrom_cons,sumFrom_nil]
def three (n:Nat):List UInt8:=[UInt8.ofNat (n / 65536),UInt8.ofNat (n / 256),UInt8.ofNat n]
end CrcPure
namespace BoxPure
open CrcPure
abbrev Sec:=Int × List UInt8
def rising:Int -> List Sec -> Bool
 | _,[]=>true
 | last,x :: l=>decide (last < x.1) && (decide (x.1 <= 255) && rising x.1 l)
def total:List Sec -> Nat
 | []=>0
 | x :: l=>x.2.length + total l
def May (l:List Sec):Prop:=l.length <= 8/\rising 0 l = true/\9 + 7 * l.length + total l <= 100000
instance (l:List Sec):Decidable (May l):=by unfold May;exact inferInstance
def idB (n:Int):UInt8:=UInt8.ofNat (n % 256).toNat
def head1 (x:Sec):List UInt8:=idB x.1 :: (three x.2.length ++ three (crc x.2))
def heads:List Sec -> List UInt8
 | []=>[]
 | x :: l=>head1 x ++ heads l
def bodies:List Sec -> List UInt8
 | []=>[]
 | x :: l=>x.2 ++ bodies l
def title:List UInt8:=[84,82,73,86,1]
def header (l:List Sec):List UInt8:=title ++ (UInt8.ofNat l.length :: heads l)
def file (l:List Sec):List UInt8:=header l ++ three (crc (header l)) ++ bodies l
theorem three_length (n:Nat):(three n).length = 3:=rfl
theorem head1_length (x:Sec):(head1 x).length = 7:=by simp [head1,three_length]
theorem heads_length:∀ l:List Sec,(heads l).length = 7 * l.length
 | []=>rfl
 | x :: l=>by simp only [heads,Zl,head1_length,heads_length l,Zc];omega
theorem bodies_length:∀ l:List Sec,(bodies l).length = total l
 | []=>rfl
 | x :: l=>by simp only [bodies,Zl,bodies_length l,total]
theorem header_length (l:List Sec):(header l).length = 6 + 7 * l.length:=by
 simp only [header,title,Zl,Zc,List.length_nil,heads_length];omega
theorem file_length (l:List Sec):(file l).length = 9 + 7 * l.length + total l:=by
 simp only [file,Zl,header_length,three_length,bodies_length];omega
theorem heads_append (a b:List Sec):heads (a ++ b) = heads a ++ heads b:=by
 induction a with
 | nil=>rfl
 | cons x a ih=>rw [List.cons_append,heads,heads,ih,Za]
theorem bodies_append (a b:List Sec):bodies (a ++ b) = bodies a ++ bodies b:=by
 induction a with
 | nil=>rfl
 | cons x a ih=>rw [List.cons_append,bodies,bodies,ih,Za]
theorem total_append (a b:List Sec):total (a ++ b) = total a + total b:=by
 induction a with
 | nil=>simp [total]
 | cons x a ih=>rw [List.cons_append,total,total,ih];omega
def lastID:Int -> List Sec -> Int
 | n,[]=>n
 | _,x :: l=>lastID x.1 l
theorem rising_snoc (x:Sec):∀ (l:List Sec) (n:Int),rising n (l ++ [x]) = (rising n l && (decide (lastID n l < x.1) && decide (x.1 <= 255)))
 | [],n=>by rw [Zf,rising,rising,rising,lastID,Bool.and_true,Bool.true_and]
 | y :: l,n=>by
  rw [List.cons_append,rising,rising,rising_snoc x l,lastID]
  simp only [Bool.and_assoc]
theorem rising_append_left:∀ (a b:List Sec) (n:Int),rising n (a ++ b) = true -> rising n a = true
 | [],_,_,_=>rfl
 | y :: a,b,n,h=>by
  rw [List.cons_append,rising,Bool.and_eq_true,Bool.and_eq_true] at h
  rw [rising,h.1,h.2.1,rising_append_left a b _ h.2.2]
  try rfl
theorem lastID_snoc (x:Sec):∀ (l:List Sec) (n:Int),lastID n (l ++ [x]) = x.1
 | [],_=>rfl
 | y :: l,n=>by rw [List.cons_append,lastID,lastID_snoc x l]
theorem id_range:∀ (l:List Sec) (n:Int),rising n l = true -> ∀ x ∈ l,n < x.1/\x.1 <= 255
 | [],_,_,_,hx=>by cases hx
 | y :: l,n,h,x,hx=>by
  rw [rising,Bool.and_eq_true,Bool.and_eq_true,decide_eq_true_eq,decide_eq_true_eq] at h
  rcases List.mem_cons.1 hx with rfl | hx
  ·
   exact ⟨h.1,h.2.1⟩
  ·
   have:=id_range l _ h.2.2 x hx
   omega
theorem take_snoc {α:Type} (l:List α) (k:Nat) (h:k < l.length):l.take (k + 1) = l.take k ++ [l[k]]:=Zt h
theorem total_snoc (l:List Sec) (k:Nat) (h:k < l.length):total (l.take (k + 1)) = total (l.take k) + l[k].2.length:=by
 rw [take_snoc l k h,total_append];simp [total]
theorem heads_snoc (l:List Sec) (k:Nat) (h:k < l.length):heads (l.take (k + 1)) = heads (l.take k) ++ head1 l[k]:=by
 rw [take_snoc l k h,heads_append];simp [heads]
theorem bodies_snoc (l:List Sec) (k:Nat) (h:k < l.length):bodies (l.take (k + 1)) = bodies (l.take k) ++ l[k].2:=by
 rw [take_snoc l k h,bodies_append];simp [bodies]
theorem rising_snoc' (l:List Sec) (k:Nat) (h:k < l.length) (n:Int):rising n (l.take (k + 1)) = (rising n (l.take k) && (decide (lastID n (l.take k) < l[k].1) && decide (l[k].1 <= 255))):=by
 rw [take_snoc l k h,rising_snoc]
theorem lastID_snoc' (l:List Sec) (k:Nat) (h:k < l.length) (n:Int):lastID n (l.take (k + 1)) = l[k].1:=by
 rw [take_snoc l k h,lastID_snoc]
theorem total_take (l:List Sec) (k:Nat):total (l.take k) <= total l:=by
 conv=>rhs;rw [<- List.take_append_drop k l,total_append]
 omega
theorem rising_take (l:List Sec) (k:Nat) (n:Int) (h:rising n l = true):rising n (l.take k) = true:=by
 rw [<- List.take_append_drop k l] at h;exact rising_append_left _ _ _ h
theorem lastID_ge:∀ (l:List Sec) (n:Int),rising n l = true -> n <= lastID n l
 | [],n,_=>Int.le_refl n
 | y :: l,n,h=>by
  rw [rising,Bool.and_eq_true,Bool.and_eq_true,decide_eq_true_eq] at h
  have:=lastID_ge l y.1 h.2.2
  rw [lastID]
  omega
def num (h:List UInt8):Nat:=(h.getD 0 0).toNat * 65536 + (h.getD 1 0).toNat * 256 + (h.getD 2 0).toNat
theorem num_lt (h:List UInt8):num h < 16777216:=by
 unfold num;have h0:=(h.getD 0 0).toNat_lt;have h1:=(h.getD 1 0).toNat_lt;have h2:=(h.getD 2 0).toNat_lt;omega
theorem num_three (n:Nat) (hn:n < 16777216) (z:List UInt8):num (three n ++ z) = n:=by
 unfold num three;simp only [List.cons_append,List.getD_cons_zero,List.getD_cons_succ,UInt8.toNat_ofNat'];omega
def secs:Nat -> List UInt8 -> List UInt8 -> Option (List Sec)
 | 0,_,_=>some []
 | n + 1,h,b =>
  if b.length < num (h.drop 1) then none
  else (secs n (h.drop 7) (b.drop (num (h.drop 1)))).map fun l=>(((h.getD 0 0).toNat:Int),b.take (num (h.drop 1))) :: l
theorem idB_val {n:Int} (h1:0 <= n) (h2:n <= 255):((idB n).toNat:Int) = n:=by
 unfold idB;rw [UInt8.toNat_ofNat'];omega
theorem secs_back:∀ (l:List Sec) (n:Int),0 <= n -> rising n l = true -> total l < 16777216 -> ∀ z z':List UInt8,secs l.length (heads l ++ z) (bodies l ++ z') = some l
 | [],_,_,_,_,_,_=>rfl
 | x :: l,n,hn,hr,ht,z,z'=>by
  rw [rising,Bool.and_eq_true,Bool.and_eq_true,decide_eq_true_eq,decide_eq_true_eq] at hr;rw [total] at ht;have ih:=secs_back l x.1 (by omega) hr.2.2 (by omega) z z';have e1:(heads (x :: l) ++ z).drop 1 = three x.2.length ++ (three (crc x.2) ++ (heads l ++ z)):=by
   simp only [heads,head1,List.cons_append,List.drop_succ_cons,List.drop_zero,Za]
  have e7:(heads (x :: l) ++ z).drop 7 = heads l ++ z:=by
   rw [heads,Za,List.drop_left' (head1_length x)]
  have e0:(heads (x :: l) ++ z).getD 0 0 = idB x.1:=by
   simp only [heads,head1,List.cons_append,List.getD_cons_zero]
  have eb:bodies (x :: l) ++ z' = x.2 ++ (bodies l ++ z'):=by rw [bodies,Za]
  rw [Zc,secs,e1,e7,e0,eb,num_three _ (by omega),if_neg (by rw [Zl];omega),List.drop_left,List.take_left,ih];simp only [Option.map_some];rw [idB_val (by omega) (by omega)]
def parse (b:List UInt8):Option (List Sec):=secs (b.getD 5 0).toNat (b.drop 6) (b.drop (9 + 7 * (b.getD 5 0).toNat))
theorem file_count {l:List Sec} (h:l.length <= 8) (z:List UInt8):((file l ++ z).getD 5 0).toNat = l.length:=by
 simp only [file,header,title,List.cons_append,Zf,List.getD_cons_succ,List.getD_cons_zero,UInt8.toNat_ofNat'];omega
theorem file_drop6 (l:List Sec) (z:List UInt8):(file l ++ z).drop 6 = heads l ++ (three (crc (header l)) ++ bodies l ++ z):=by
 simp only [file,header,title,List.cons_append,Zf,List.drop_succ_cons,List.drop_zero,Za]
theorem file_dropAll (l:List Sec) (z:List UInt8):(file l ++ z).drop (9 + 7 * l.length) = bodies l ++ z:=by
 have:file l ++ z = (header l ++ three (crc (header l))) ++ (bodies l ++ z):=by simp only [file,Za]
 rw [this,List.drop_left'];rw [Zl,header_length,three_length];omega
theorem parse_file {l:List Sec} (h:May l) (z:List UInt8):parse (file l ++ z) = some l:=by
 unfold parse;rw [file_count h.1,file_drop6,file_dropAll];exact secs_back l 0 (by omega) h.2.1 (by have:=h.2.2;omega) _ _
theorem file_prefix {l l':List Sec} (h:May l) (h':May l') {z:List UInt8} (e:file l' ++ z = file l):l' = l/\z = []:=by
 have h1:=parse_file h' z;have h2:=parse_file h [];rw [Ze] at h2;rw [e,h2] at h1;cases h1;refine ⟨rfl,?_⟩;have:=congrArg List.length e;rw [Zl] at this;exact Zn (by omega)
theorem file_inj {l l':List Sec} (h:May l) (h':May l') (e:file l' = file l):l' = l:=(file_prefix h h' (z:=[]) (by rw [Ze];exact e)).1
def Reads (b:List UInt8) (r:Option (List Sec)):Prop:=∀ l,r = some l ↔ May l/\file l = b
theorem reads_none {b:List UInt8} (h:∀ l,May l -> file l ≠ b):Reads b none:=fun l=>⟨fun e=>(by cases e),fun e=>absurd e.2 (h l e.1)⟩
theorem reads_of_parse {b:List UInt8} {l:List Sec} (h:parse b = some l):Reads b (if May l/\file l = b then some l else none):=fun l'=>by
 constructor
 ·
  intro e
  split at e
  ·
   cases e
   assumption
  ·
   cases e
 ·
  rintro ⟨h1,h2⟩
  have:=parse_file h1 []
  rw [Ze,h2,h] at this
  cases this
  rw [if_pos ⟨h1,h2⟩]
theorem reads_of_parse_none {b:List UInt8} (h:parse b = none):Reads b none:=reads_none fun l h1 h2=>by
 have:=parse_file h1 []
 rw [Ze,h2,h] at this
 cases this
theorem reads_short {b:List UInt8} (h:b.length < 9 \/ b.length < 9 + 7 * (b.getD 5 0).toNat \/ 8 < (b.getD 5 0).toNat):Reads b none:=reads_none fun l h1 h2=>by
 have e1:=file_length l
 have e2:=file_count h1.1 []
 rw [Ze,h2] at e2
 rw [h2] at e1
 have:=h1.1
 omega
end BoxPure
namespace StoreP
open Go.Lib TermPure LinesPure Tri SortP OrdG ParseP FrontP PackW PackP BoxPure
theorem shown_short {t:Term} (h:is t = true):(shown t).length <= 246:=by
 have hq:=Show.quoted_len t.text;unfold is at h;unfold shown;by_cases h1:t.kind = 1
 ·
  rw [if_pos h1] at h |-;unfold isIRI at h;simp only [Bool.and_eq_true,decide_eq_true_eq] at h;simp;omega
 rw [if_neg h1] at h |-;by_cases h2:t.kind = 2
 ·
  rw [if_pos h2] at h |-;unfold isLabel at h;simp only [Bool.and_eq_true,decide_eq_true_eq] at h;simp;omega
 rw [if_neg h2] at h |-;by_cases h3:t.kind = 3
 ·
  rw [if_pos h3] at h;unfold isText at h;simp only [Bool.and_eq_true,decide_eq_true_eq] at h;rw [if_neg (by omega),if_neg (by omega)];omega
 rw [if_neg h3] at h;by_cases h4:t.kind = 4
 ·
  rw [if_pos h4] at h |-;unfold isText isLang at h;simp only [Bool.and_eq_true,decide_eq_true_eq] at h;simp;omega
 rw [if_neg h4] at h |-;by_cases h5:t.kind = 5
 ·
  rw [if_pos h5] at h |-;unfold isText isIRI at h;simp only [Bool.and_eq_true,decide_eq_true_eq] at h;simp;omega
 ·
  rw [if_neg h5] at h;cases h
theorem shown_ne {t:Term} (h:is t = true):shown t ≠ []:=by
 unfold shown TermPure.quoted
 repeat' split
 all_goals simp
def nums (I:List Ids):List Nat:=I.flatMap fun x=>[x.a,x.b,x.c]
theorem nums_len (I:List Ids):(nums I).length = 3 * I.length:=by
 induction I with
 | nil=>rfl
 | cons x I ih =>
  show (nums I).length + 3 = _;rw [ih,Zc];omega
theorem nums_inj:∀ {I J:List Ids},nums I = nums J -> I = J
 | [],[],_=>rfl
 | [],y :: J,h=>by cases h
 | x :: I,[],h=>by cases h
 | x :: I,y :: J,h=>by
  injection h with h1 h;injection h with h2 h;injection h with h3 h;have:x = y:=by cases x;cases y;simp_all
  rw [this,nums_inj h]
def texts (T:List Triple):List (List UInt8):=(termsT T).map shown
def wide (T:List Triple):Nat:=Lib.bitLen (termsT T).length
def secs2 (T:List Triple):List Sec:=[(1,frontB (texts T)),(2,headN T.length ++ packB (nums (idsT T)) (wide T))]
def encT (T:List Triple):List UInt8:=file (secs2 T)
theorem texts_short {T:List Triple} (h:Valid T):∀ x ∈ texts T,x.length <= 246:=fun x hx=>by
 obtain ⟨t,ht,rfl⟩:=List.mem_map.1 hx
 exact shown_short (termsT_is h t ht)
theorem texts_rise {T:List Triple} (h:Valid T):(texts T).Pairwise (· < ·):=by
 unfold texts;rw [List.pairwise_map];exact termsT_rise h
theorem lt_bitLen (x:Nat) (h:x < 2 ^ 64):x < 2 ^ Lib.bitLen x:=by
 by_cases h0:x = 0
 ·
  subst h0;exact Nat.two_pow_pos _
 ·
  exact (Lib.bitLenAux_bounds 64 x h h0).2.2
theorem E_len {T:List Triple} (h:Valid T) (hl:T.length <= 100):(termsT T).length <= 300:=by
 have h1:=Made.terms_len h;have h2:=Made.inT_len T;omega
theorem wide_le {T:List Triple} (h:Valid T) (hl:T.length <= 100):wide T <= 9:=by
 have:=E_len h hl;exact Lib.bitLen_le _ 9 (by decide) (by omega)
theorem nums_small {T:List Triple} (h:Valid T) (hl:T.length <= 100):∀ n ∈ nums (idsT T),n <= 300/\n < 2 ^ wide T:=by
 intro n hn;have hE:=E_len h hl;have hb:n <= (termsT T).length:=by
  unfold nums idsT at hn;obtain ⟨x,hx,hn⟩:=List.mem_flatMap.1 hn;obtain ⟨t,ht,rfl⟩:=List.mem_map.1 hx;have key:∀ y,idOf (termsT T) y <= (termsT T).length:=fun y=>by
   unfold idOf
   split
   ·
    rename_i hy
    have:=List.idxOf_lt_length_of_mem hy;omega
   ·
    omega
  unfold idsOf at hn;simp at hn;rcases hn with rfl | rfl | rfl <;> exact key _
 have:=lt_bitLen (termsT T).length (by omega);unfold wide;omega
theorem nums_bits {T:List Triple} (h:Valid T) (hl:T.length <= 100):∀ n ∈ nums (idsT T),n <= 1000000/\Lib.bitLen n <= wide T:=by
 intro n hn;obtain ⟨h1,h2⟩:=nums_small h hl n hn;exact ⟨by omega,Lib.bitLen_le _ _ (by have:=wide_le h hl;omega) h2⟩
theorem front_len {T:List Triple} (h:Valid T) (hl:T.length <= 100):(frontB (texts T)).length <= 74402:=by
 have hE:=E_len h hl;have h1:=upTo_len (texts_short h) (texts T).length (lR _);have h2:(texts T).length = (termsT T).length:=by unfold texts;simp
 unfold frontB headN;rw [Zl];simp only [Zc,List.length_nil];have:(texts T).length * (246 + 2) <= 300 * 248:=Nat.mul_le_mul (by omega) (lR _);omega
theorem ids_len (T:List Triple):(idsT T).length = T.length:=by unfold idsT;simp
theorem body_len {T:List Triple} (h:Valid T) (hl:T.length <= 100):(headN T.length ++ packB (nums (idsT T)) (wide T)).length <= 400:=by
 have h1:=wide_le h hl;rw [Zl,packB_len,nums_len,ids_len];have:3 * T.length * wide T <= 300 * 9:=Nat.mul_le_mul (by omega) h1;unfold headN;simp only [Zc,List.length_nil];omega
theorem enc_may {T:List Triple} (h:Valid T) (hl:T.length <= 100):May (secs2 T):=by
 have h1:=front_len h hl;have h2:=body_len h hl;unfold May secs2;refine ⟨by simp,by simp [rising],?_⟩;simp only [total,Zc,List.length_nil];omega
theorem map_shown_inj:∀ {a b:List Term},(∀ x ∈ a,is x = true) -> (∀ x ∈ b,is x = true) -> a.map shown = b.map shown -> a = b
 | [],[],_,_,_=>rfl
 | [],y :: b,_,_,h=>by cases h
 | x :: a,[],_,_,h=>by cases h
 | x :: a,y :: b,ha,hb,h=>by
  rw [List.map_cons,List.map_cons] at h
  injection h with h1 h2
  rw [shown_inj (ha x (by simp)) (hb y (by simp)) h1,map_shown_inj (fun z hz=>ha z (by simp [hz])) (fun z hz=>hb z (by simp [hz])) h2]
theorem ids_inj {E:List Term}:∀ {T U:List Triple},(∀ x ∈ inTriples T,x ∈ E) -> (∀ x ∈ inTriples U,x ∈ E) -> T.map (idsOf E) = U.map (idsOf E) -> T = U
 | [],[],_,_,_=>rfl
 | [],y :: b,_,_,h=>by cases h
 | x :: a,[],_,_,h=>by cases h
 | x :: T,y :: U,hT,hU,h=>by
  rw [List.map_cons,List.map_cons] at h;injection h with h1 h2;obtain ⟨a1,a2,a3⟩:=mem_three (T:=x :: T) (t:=x) (by simp);obtain ⟨b1,b2,b3⟩:=mem_three (T:=y :: U) (t:=y) (by simp);unfold idsOf at h1;injection h1 with e1 e2 e3;have:=(idx_eq (hT _ a1) (hU _ b1)).1 e1;have:=(idx_eq (hT _ a2) (hU _ b2)).1 e2;have:=(idx_eq (hT _ a3) (hU _ b3)).1 e3;have hxy:x = y:=by cases x;cases y;simp_all
  have sub:∀ (z:Triple) (V:List Triple) (w:Term),w ∈ inTriples V -> w ∈ inTriples (z :: V):=fun z V w hw=>by
   unfold inTriples at *;rw [List.flatMap_cons];exact Zk.2 (.inr hw)
  rw [hxy,ids_inj (fun z hz=>hT z (sub _ _ _ hz)) (fun z hz=>hU z (sub _ _ _ hz)) h2]
theorem encT_inj {T U:List Triple} (hT:Valid T) (hU:Valid U) (lT:T.length <= 100) (lU:U.length <= 100) (h:encT T = encT U):T = U:=by
 have hs:=file_inj (enc_may hU lU) (enc_may hT lT) h;unfold secs2 at hs;injection hs with h1 h2;injection h2 with h2 _;injection h1 with _ h1;injection h2 with _ h2;have s1:=texts_short hT;have s2:=texts_short hU;have n1:=E_len hT lT;have n2:=E_len hU lU;have c1:(texts T).length = (termsT T).length:=by unfold texts;simp
 have c2:(texts U).length = (termsT U).length:=by unfold texts;simp
 have hx:texts T = texts U:=frontB_inj (fun x hx=>by have:=s1 x hx;omega) (fun x hx=>by have:=s2 x hx;omega) (by omega) (by omega) h1;have hE:termsT T = termsT U:=map_shown_inj (termsT_is hT) (termsT_is hU) hx;obtain ⟨e1,e2⟩:=List.append_inj h2 (by simp [headN]);have hlen:=head_inj (by omega) (by omega) e1;have hwd:wide T = wide U:=by unfold wide;rw [hE]
 rw [hwd] at e2;have a1:=nums_small hT lT;have a2:=nums_small hU lU;rw [hwd] at a1;have hn:=packB_inj (by rw [nums_len,nums_len,ids_len,ids_len,hlen]) (fun n hn=>(a1 n hn).2) (fun n hn=>(a2 n hn).2) e2;have hi:=nums_inj hn;unfold idsT at hi;rw [hE] at hi;exact ids_inj (fun x hx=>by rw [<- hE];exact (termsT_mem hT x).2 hx) (fun x hx=>(termsT_mem hU x).2 hx) hi
end StoreP
namespace FrontW
open Go.RowKit Go.Lib B Rd StoreW Clones FrontP
def strs (l:List (List UInt8)):List ByteArray:=l.map mkS
theorem strs_len (l:List (List UInt8)):(strs l).length = l.length:=by simp [strs]
theorem str_cells {w:World} {ok:Nat -> Prop} {l:List (List UInt8)} {A:Option Addr} {c:Nat} (h:strK.sl.M w ok (strs l) [.slice A l.length c]) (hp:0 < l.length) :
  ∃ b off,A = some ⟨b,off,none⟩/\ok b/\b < w.heap.size/\∀ i (hi:i < l.length),w.cell? ⟨b,off + i,none⟩ = some (.string (mkS l[i])):=by
 obtain ⟨A',c',he,hlc,_,hA,hrow⟩:=h;have hz:(strs l).length = l.length:=strs_len l;obtain ⟨rfl,rfl⟩:A = A'/\c = c':=by simpa [hz] using he
 obtain ⟨b,off,hAe,hok,hcells⟩:=Kd.row_plain rfl hrow (by omega);have hget:∀ i (hi:i < l.length),w.cell? ⟨b,off + i,none⟩ = some (.string (mkS l[i])):=fun i hi=>by
  obtain ⟨u,hu,hM⟩:=hcells i (by omega);have e:(strs l)[i]'(by omega) = mkS l[i]:=by simp [strs]
  rw [e] at hM;obtain ⟨h1,_⟩:=hM;simp at h1;rw [hu,h1]
 exact ⟨b,off,hAe,hok,cell_lt (hget 0 hp),hget⟩
def DictAt (w:World) (ok:Nat -> Prop) (g:Nat) (l:List (List UInt8)):Prop:=∃ A c,w.cell? ⟨g,0,none⟩ = some (.slice A l.length c)/\strK.sl.M w ok (strs l) [.slice A l.length c]
theorem own_cells {e:TypeId} {w:World} {base:Nat} {ok:Nat -> Prop} {v:Value} {l:List UInt8} (h:byteK.own e w base ok v l):w.ownsRow base e 1 v l.length (Lib.byteCells l):=by
 obtain ⟨_,cells,ho,hr⟩:=h;have ho1:w.ownsRow base e 1 v l.length cells:=ho;have hl:cells.length = l.length:=by simpa using ho1.1
 have:cells = Lib.byteCells l:=by
  refine List.ext_getElem (by rw [hl];simp [Lib.byteCells]) fun i h1 h2=>?_
  have hi:i < l.length:=by omega
  have hM:((cells.drop (i * 1)).take 1) = [.int .u8 (l[i].toNat:Int)]:=hr i l[i] (Zg hi);rw [Nat.mul_one,List.drop_eq_getElem_cons h1,List.take_succ_cons,List.take_zero] at hM;injection hM with hM _;rw [hM];simp [Lib.byteCells]
 rw [<- this];exact ho1
theorem own_of_cells {e:TypeId} {w:World} {base:Nat} {ok:Nat -> Prop} {v:Value} {l:List UInt8} (hl:l.length <= 140737488355328) (h:w.ownsRow base e 1 v l.length (Lib.byteCells l)):byteK.own e w base ok v l:=by
 refine ⟨hl,Lib.byteCells l,h,fun i x hx=>?_⟩;exact u8_lit l i x hx
section
variable {W w0 : World} {ops : Array Oper} {rest : List Oper} {o : Oper} {a : Act} {Q : Exit → Act → World → Prop}
theorem own_app_str (hgd:o.guard = none) (sl x:Operand) (ho:o.op = .call { callee:=.builtin .append,args:=#[sl,x],argTypes:=#[55,9] })
  (base:Nat) (v:Value) (xs l:List UInt8) (hs:a.eval sl = v) (hx:a.eval x = .string (mkS l)) (HO:byteK.own 5 W base TT v xs) (HB:Below base w0 W) (hbase:base <= W.heap.size) (hl:xs.length + l.length <= 140737488355328)
  (h:∀ v1 w1,byteK.own 5 w1 base TT v1 (xs ++ l) -> Below base w0 w1 -> W.grownBy w1 v.ownBlock -> wpList Tryz.prog ops Q rest (a.put o.dst v1) w1):wpList Tryz.prog ops Q (o :: rest) a W:=by
 obtain ⟨i0,hi,hz0,hz1,hz2⟩:=info_parts Tryz.Builder_Extra_159.infoByte;have zl:=mkS_size l;have hlt:=Kd.own_lt HO;refine Lib.wpList_append_own_string W hgd sl x 55 9 ho base 5 i0 underlying55 underlying9 hi hz0 hz1 hz2 v _ _ hs (own_cells HO) (mkS l) hx (by rw [zl];unfold maxLen;omega) (by rw [zl];omega) hbase ?_;intro v1 w1 hown hg _;refine h v1 w1 (own_of_cells (by rw [Zl];omega) ?_) (HB.grown hg hbase (fun k hk=>(hlt k hk).1)) hg;rw [Bld.strCells_eq,Bld.byteCells_append,zl] at hown;rw [Zl];exact hown
end
theorem shared_calls (a b:List UInt8) (ha:a.length <= 140737488355328) (hb:b.length <= 140737488355328) (w:World):Calls Tryz.prog 105 #[.string (mkS a),.string (mkS b)] w fun e w'=>e = .returned (.int .i64 (shared a b:Nat))/\Below w.heap.size w w':=by
 have za:=mkS_size a;have zb:=mkS_size b;have HS:=Zz (shared_at a b);obtain ⟨v,hv⟩:∃ v,v = shared a b:=⟨_,rfl⟩;rw [<- hv] at HS;rw [<- hv];clear hv;go_enter func105,ntmps105;go_wp2;go_loopw [5] (fun vn wr=>∃ n:Nat,vn = .int .i64 n/\n <= a.length/\n <= b.length/\Hid (a.take n = b.take n/\Below w.heap.size w wr)) (fun vn _=>a.length - (intOf vn).toNat)
 case atStart=>exact ⟨0,rfl,by omega,by omega,Zz ⟨rfl,bR _ _⟩⟩
 case round =>
  obtain ⟨n,rfl,hna,hnb,HI⟩:=hrel;have HBd:=Zz (fun q=>bel_drewN HI.o.2 q);by_cases h1:n < a.length
  ·
   have d1:decide (n < a.length) = true:=dT h1;have e1:decide ((n:Int) < (a.length:Int)) = true:=dT (by omega);by_cases h2:n < b.length
   ·
    have d2:decide (n < b.length) = true:=dT h2;have e2:decide ((n:Int) < (b.length:Int)) = true:=dT (by omega);have ka:n < (mkS a).size:=by rw [za];exact h1
    have kb:n < (mkS b).size:=by rw [zb];exact h2
    have ga:(mkS a)[n]'ka = a[n]:=Rd.mkS_get a n ka h1;have gb:(mkS b)[n]'kb = b[n]:=Rd.mkS_get b n kb h2;obtain ⟨x,hx⟩:∃ x,x = a[n]:=⟨_,rfl⟩;obtain ⟨y,hy⟩:∃ y,y = b[n]:=⟨_,rfl⟩;rw [<- hx] at ga;rw [<- hy] at gb;have jn:(n:Int) < (a.length:Int):=by omega
    have jm:(n:Int) < (b.length:Int):=by omega
    obtain ⟨p,hp⟩:∃ p,p = x.toNat:=⟨_,rfl⟩;obtain ⟨q,hq⟩:∃ q,q = y.toNat:=⟨_,rfl⟩;have hxp:x.toNat = p:=hp.symm;have hyq:y.toNat = q:=hq.symm;by_cases h3:x = y
    ·
     have hpq:((p:Int) == (q:Int)) = true:=by rw [hp,hq,h3];simp
     have hab:a[n] = b[n]:=hx.symm.trans (h3.trans hy);have HN:Hid (a.take (n + 1) = b.take (n + 1)):=Zz ((Zt h1).trans ((congr (congrArg (fun (u:List UInt8) (z:List UInt8)=>u ++ z) HI.o.1) (congrArg (fun (q:UInt8)=>[q]) hab)).trans (Zt h2).symm));clear h3 hx hy hp hq HI;go_upto_region 2 with fail
     go_quiet (fail);go_wp2;go_roundw
     case rel=>exact ⟨n + 1,by go_num,by omega,by omega,Zz ⟨HN.o,HBd.o _⟩⟩
     case measure=>simp [intOf];omega
    ·
     have hpq:((p:Int) == (q:Int)) = false:=by
      rw [Zb,hp,hq];intro h;exact h3 (UInt8.toNat_inj.1 (by omega))
     have HN:Hid (v = n):=Zz (HS.o n hna hnb HI.o.1 (fun _ _ he=>h3 (hx.trans (he.trans hy.symm))));clear h3 hx hy hp hq HI;go_upto_region 2 with fail
     go_quiet (fail);go_wp2;go_ret;exact ⟨by rw [HN.o];rfl,HBd.o _⟩
   ·
    have d2:decide (n < b.length) = false:=dF h2;have e2:decide ((n:Int) < (b.length:Int)) = false:=dF (by omega);have HN:Hid (v = n):=Zz (HS.o n hna hnb HI.o.1 (fun _ h=>absurd h h2));clear HI;go_upto_region 2 with fail
    go_quiet (fail);go_wp2;go_ret;exact ⟨by rw [HN.o];rfl,HBd.o _⟩
  ·
   have d1:decide (n < a.length) = false:=dF h1;have e1:decide ((n:Int) < (a.length:Int)) = false:=dF (by omega);have HN:Hid (v = n):=Zz (HS.o n hna hnb HI.o.1 (fun h _=>absurd h h1));clear HI;go_upto_region 2 with fail
   go_quiet (fail);go_wp2;go_ret;exact ⟨by rw [HN.o];rfl,HBd.o _⟩
theorem new_calls (l:List (List UInt8)) (hl:l.length <= 300) (hs:∀ x ∈ l,x ≠ []/\x.length <= 250) (hr:l.Pairwise (· < ·)) (A:Option Addr) (c:Nat) (w:World) (HL:strK.sl.M w (fun _=>True) (strs l) [.slice A l.length c]) :
  Calls Tryz.prog 57 #[.slice A l.length c] w fun e w'=>(∃ g,e = .returned (.tuple #[.pointer (some ⟨g,0,none⟩),.int .i64 0])/\w.heap.size <= g/\DictAt w' (fun _=>True) g l)/\Below w.heap.size w w':=by
 have HC:=Zz (clone_str_calls (strs l) A c w (by rw [strs_len];exact HL) (by rw [strs_len];omega));rw [strs_len] at HC;have HRow:=Zz (fun hp=>str_cells HL hp);have HS:=Zz hs;have HR:=Zz hr;have h300:decide ((300:Int) < (l.length:Int)) = false:=dF (by omega);clear hs hr HL;go_enter func57,ntmps57;go_wp2;go_loopw [11] (fun vk wr=>∃ k:Nat,vk = .int .i64 k/\k <= l.length/\w = wr) (fun vk _=>l.length - (intOf vk).toNat)
 case atStart=>exact ⟨0,rfl,by omega,rfl⟩
 case round =>
  obtain ⟨k,rfl,hk,rfl⟩:=hrel;by_cases hlt:k < l.length
  ·
   have hd:decide ((k:Int) < (l.length:Int)) = true:=dT (by omega);have hd2:decide (k < l.length) = true:=dT hlt;have ik:(k:Int) < (l.length:Int):=by omega
   obtain ⟨b,off,rfl,_,hbs,hcells⟩:=HRow.o (by omega);have hcx:=hcells k hlt;obtain ⟨x,hx⟩:∃ x,x = l[k]:=⟨_,rfl⟩;rw [<- hx] at hcx;have hxs:=HS.o x (by rw [hx];exact Zm hlt);have zx:=mkS_size x;have tx:=mkS_toList x;have hemp:x.isEmpty = false:=by cases x with
    | nil=>exact absurd rfl hxs.1
    | cons a x=>rfl
   have hem2:(x == []) = false:=by simpa using hxs.1
   have h250:decide ((250:Int) < (x.length:Int)) = false:=dF (by omega);by_cases h0:k = 0
   ·
    subst h0;clear hcells hx hxs;simp only [Nat.add_zero] at hcx;go_wp2;go_roundw
    case rel=>exact ⟨1,by go_num,by omega,trivial⟩
    case measure=>simp [intOf];omega
   ·
    have hk0:decide ((0:Int) < (k:Int)) = true:=dT (by omega);obtain ⟨j,hj⟩:∃ j,j = k - 1:=⟨_,rfl⟩;have hw1:IntKind.i64.wrap ((k:Int) - 1) = (j:Int):=by rw [Zw];omega
    have ij:(j:Int) < (l.length:Int):=by omega
    have hjl:j < l.length:=by omega
    have hcy:=hcells j hjl;obtain ⟨y,hy⟩:∃ y,y = l[j]:=⟨_,rfl⟩;rw [<- hy] at hcy;have hyx:y < x:=by rw [hx,hy];exact List.pairwise_iff_getElem.1 HR.o j k hjl hlt (by omega)
    have hless:Op.bytesLess (mkS y).toList (mkS x).toList = true:=by rw [Cmp.less_eq];exact dT hyx
    have ty:=mkS_toList y;have hless2:Op.bytesLess y x = true:=by rw [Go.Proofs.bytesLess_eq];exact dT hyx
    clear hcells hx hy hxs hyx hj;go_wp2;go_roundw
    case rel=>exact ⟨k + 1,by go_num,by omega,trivial⟩
    case measure=>simp [intOf];omega
  ·
   have hd:decide ((k:Int) < (l.length:Int)) = false:=dF (by omega);have hd2:decide (k < l.length) = false:=dF hlt;go_wp2_with fail;refine HC.o.mono ?_;rintro e w2 ⟨⟨v,rfl,ho⟩,hb⟩;obtain ⟨A1,c1,rfl,_,_⟩:=Kd.own_slice ho;rw [strs_len] at ho |-;have hM:strK.sl.M w2 (fun _=>True) (strs l) [.slice A1 l.length c1]:=Kd.own_sl (ok:=TT) ho (fun k hk=>trivial) (fun k hk=>trivial);have HB2:=Zz (bel_alloc hb (.cells #[.slice A1 l.length c1] 155));have HD:Hid (DictAt (w2.alloc (.cells #[.slice A1 l.length c1] 155)) (fun _=>True) w2.heap.size l):=Zz ⟨A1,c1,by unfold World.cell?;dsimp only;rw [Kd.heap_new];rfl,Kd.M_below (Kd.M_bound hM) (bel_alloc (bR _ _) _) |> strK.sl.mono (fun _ _ _=>trivial)⟩;have HZ:=Zz hb.size;clear ho hM hb HC;go_wp2;go_ret2;exact ⟨⟨_,rfl,HZ.o,HD.o⟩,HB2.o⟩
end FrontW
namespace FrontW
open Go.RowKit Go.Lib B Rd StoreW Clones FrontP
theorem any_u8:∀ (w:World) (ok ok':Nat -> Prop) (x:UInt8) (cs:List Value),byteK.M w ok x cs -> byteK.M w ok' x cs:=fun _ _ _ _ _ h=>h
theorem two_row (W:World) (a b:Nat) (ha:a < 256) (hb:b < 256):byteK.sl.M (W.alloc (.cells #[.int .u8 (a:Int),.int .u8 (b:Int)] 5)) (fun _=>True) [UInt8.ofNat a,UInt8.ofNat b] [.slice (some ⟨W.heap.size,0,none⟩) 2 2]:=by
 have ea:(UInt8.ofNat a).toNat = a:=by simp;omega
 have eb:(UInt8.ofNat b).toNat = b:=by simp;omega
 refine ⟨some ⟨W.heap.size,0,none⟩,2,rfl,lR _,⟨by simp,by unfold maxLen;omega⟩,fun h=>(by cases h),fun i x hx=>?_⟩
 match i with
 | 0 =>
  simp at hx;subst hx;refine ⟨_,[.int .u8 (a:Int)],rfl,trivial,by show _ = [Value.int .u8 ((UInt8.ofNat a).toNat:Int)];rw [ea],fun j u hu=>?_⟩;rw [add_plain,World.cell?,Kd.heap_new]
  match j with
  | 0 =>
   simp at hu;subst hu;rfl
  | j + 1=>simp at hu
 | 1 =>
  simp at hx;subst hx;refine ⟨_,[.int .u8 (b:Int)],rfl,trivial,by show _ = [Value.int .u8 ((UInt8.ofNat b).toNat:Int)];rw [eb],fun j u hu=>?_⟩;rw [add_plain,World.cell?,Kd.heap_new]
  match j with
  | 0 =>
   simp at hu;subst hu;rfl
  | j + 1=>simp at hu
 | i + 2=>simp at hx
theorem head_own (W:World) (base n:Nat) (hb:base <= W.heap.size) (hn:n < 65536):byteK.own 5 (W.alloc (.cells #[.int .u8 ((n:Int) / 256),.int .u8 ((n:Int) % 256)] 5)) base TT (.slice (some ⟨W.heap.size,0,none⟩) 2 2) (headN n):=by
 have ea:((UInt8.ofNat (n / 256)).toNat:Int) = (n:Int) / 256:=by simp;omega
 have eb:((UInt8.ofNat (n % 256)).toNat:Int) = (n:Int) % 256:=by simp
 refine Kd.own_block (cells:=[.int .u8 ((n:Int) / 256),.int .u8 ((n:Int) % 256)]) (xs:=headN n) hb (Kd.heap_new _ _) rfl (by simp [headN]) (fun i x h=>?_);unfold headN at h
 match i with
 | 0 =>
  simp at h;subst h;show _ = [Value.int .u8 ((UInt8.ofNat (n / 256)).toNat:Int)];rw [ea]
  try rfl
 | 1 =>
  simp at h;subst h;show _ = [Value.int .u8 ((UInt8.ofNat (n % 256)).toNat:Int)];rw [eb]
  try rfl
 | i + 2=>simp at h
theorem bytes_calls (l:List (List UInt8)) (hl:l.length <= 300) (hs:∀ x ∈ l,x.length <= 250) (g:Nat) (w:World) (h:DictAt w (fun _=>True) g l) :
  Calls Tryz.prog 61 #[.pointer (some ⟨g,0,none⟩)] w fun e w'=>(∃ v,e = .returned v/\byteK.own 5 w' w.heap.size TT v (frontB l))/\Below w.heap.size w w':=by
 obtain ⟨A,c,hg,hM⟩:=h;have HRow:=Zz (fun hp=>str_cells (Kd.M_bound hM) hp);have gp:=fun p:QT.Bel w=>p.cell (b:=g) (o:=0) hg
 have HG:=Zz hg;have hgl:g < w.heap.size:=cell_lt hg;have HS:=Zz hs;have HUp:Hid (∀ k,k <= l.length -> (headN l.length ++ upTo l k).length <= 100000):=Zz (fun k hk=>by
  have h1:=upTo_len hs k hk;have h2:k * (250 + 2) <= 300 * 252:=Nat.mul_le_mul (by omega) (lR _);simp only [Zl,headN,Zc,List.length_nil];omega)
 have HEnd:Hid (headN l.length ++ upTo l l.length = frontB l):=Zz rfl;have HHead:=Zz (fun W hb=>head_own W w.heap.size l.length hb (by omega));clear hM hg hs;go_enter func61,ntmps61;go_upto_region 3 with fail
 refine QT.region_bel 14 (by kernel_rfl) (by kernel_rfl) ?_;simp only [List.take_succ_cons,List.take_zero,List.drop_succ_cons,List.drop_zero]
 iterate 14 (go_big_quiet_step (fail))
 refine wpQuiet_nil ?_;intro w2 hw';obtain ⟨⟨_,hb⟩,rfl⟩:=hw';have HO0:=Zz (HHead.o w2 hb.size);have HB0:=Zz (bel_alloc hb (.cells #[.int .u8 ((l.length:Int) / 256),.int .u8 ((l.length:Int) % 256)] 5));have HN0:Hid (headN l.length ++ upTo l 0 = headN l.length):=Zz (by simp [upTo]);have hg2:(w2.alloc (.cells #[.int .u8 ((l.length:Int) / 256),.int .u8 ((l.length:Int) % 256)] 5)).cell? ⟨g,0,none⟩ = some (.slice A l.length c):=(HB0.o.cell (p:=⟨g,0,none⟩) hgl).trans HG.o;clear gp hb HHead;go_wp2;go_loopw [3,29] (fun v3 vk wr=>∃ k:Nat,vk = .int .i64 k/\k <= l.length/\Hid (byteK.own 5 wr w.heap.size TT v3 (headN l.length ++ upTo l k)/\Below w.heap.size w wr)) (fun _ vk _=>l.length - (intOf vk).toNat)
 case atStart=>exact ⟨0,rfl,by omega,Zz ⟨by rw [HN0.o];exact HO0.o,HB0.o⟩⟩
 case round =>
  obtain ⟨k,rfl,hk,HI⟩:=hrel;clear HO0 HB0 HN0 hg2;obtain ⟨B1,hB1⟩:∃ B1,B1 = headN l.length ++ upTo l k:=⟨_,rfl⟩;rw [<- hB1] at HI;have HBe:=Zz hB1;clear hB1;obtain ⟨A3,c3,rfl,_,_⟩:=Kd.own_slice HI.o.1;by_cases hlt:k < l.length
  ·
   have hd:decide ((k:Int) < (l.length:Int)) = true:=dT (by omega);have hd2:decide (k < l.length) = true:=dT hlt;have ik:(k:Int) < (l.length:Int):=by omega
   obtain ⟨b,off,rfl,_,hbs,hcells⟩:=HRow.o (by omega);have hcx:=(HI.o.2.cell (p:=⟨b,off + k,none⟩) hbs).trans (hcells k hlt);have hgr:=(HI.o.2.cell (p:=⟨g,0,none⟩) hgl).trans HG.o;have hgx:=List.getD_eq_getElem?_getD (l:=l) (i:=k) (a:=[]);rw [Zg hlt] at hgx;have HGd:Hid (l.getD k [] = l[k]):=Zz hgx;have hxs:=HS.o _ (Zm hlt);obtain ⟨x,hx⟩:∃ x,x = l[k]:=⟨_,rfl⟩;rw [<- hx] at hcx HGd hxs;have zx:=mkS_size x;clear hgx;by_cases h4:k % 4 = 0
   ·
    have hm4:((k:Int) % 4 != 0) = false:=by simp;omega
    have HO:Hid (outN l k = 0):=Zz (by unfold outN;rw [if_pos h4]);obtain ⟨m,hmd⟩:∃ m,m = x.length - 0:=⟨_,rfl⟩;have HO1:=Zz HI.o.1;have HB1:=Zz HI.o.2;clear hcells hx h4;have hm:x.length - 0 = m:=hmd.symm;have w1:IntKind.i64.wrap ((x.length:Int) - 0) = (m:Int):=by rw [Zw];omega
    have w2:(x.length:Int) - 0 = (m:Int):=by omega
    have HTwo:=Zz (fun W=>two_row W 0 m (by omega) (by omega));have hxe:(mkS x).extract 0 x.length = mkS x:=by rw [mkS_extract];congr 1;simp
    have hxe2:(mkS x).extract 0 (mkS x).size = mkS x:=by rw [zx];exact hxe
    have HPc:Hid (B1 ++ [UInt8.ofNat 0,UInt8.ofNat m] ++ x = headN l.length ++ upTo l (k + 1)):=Zz (by
     rw [HBe.o,upTo_succ,piece,HO.o,HGd.o,hm];simp)
    have HLen2:=Zz (HUp.o (k + 1) hlt);rw [<- HPc.o] at HLen2;have hl1:B1.length + 2 <= 100000:=by have:=HLen2.o;simp only [Zl,Zc,List.length_nil] at this |-;omega
    obtain ⟨B2,hB2⟩:∃ B2,B2 = B1 ++ [UInt8.ofNat 0,UInt8.ofNat m]:=⟨_,rfl⟩;rw [<- hB2] at HPc HLen2;have hl2:B2.length + x.length <= 100000:=by have:=HLen2.o;rw [Zl] at this;exact this
    have HB2e:=Zz hB2;have HXE:=Zz hxe;have HXE2:=Zz hxe2;clear HLen2 hmd hm hB2 hxe hxe2;go_wp2_with (at_builtin;first | (refine Kd.own_app byteK w.heap.size rfl (.tmp 47) (.tmp 55) 55 5 (.int .u8 0) 1 rfl underlying55 PackW.info_u8 rfl (by decide) _ B1 [UInt8.ofNat 0,UInt8.ofNat m] (some ⟨wr.heap.size,0,none⟩) 2 TT (by rfl) (by rfl) (Kd.own_alloc HO1.o _) (.inr ⟨HTwo.o _,any_u8⟩) (bel_alloc HB1.o _) (by have:=HB1.o.size;simp;omega) (by simp;omega) ?_;intro v1 w8 ho1 hb1 hg1 hv1;clear hg1 hv1;rw [<- HB2e.o] at ho1;have HO8:=Zz ho1;have HB8:=Zz hb1;clear ho1 hb1;obtain ⟨A8,c8,rfl,_,_⟩:=Kd.own_slice HO8.o) | (refine own_app_str rfl (.tmp 57) (.tmp 60) (by rfl) w.heap.size _ B2 x (by rfl) (by first | rfl | exact congrArg Value.string HXE.o | exact congrArg Value.string HXE2.o) HO8.o HB8.o HB8.o.size (by omega) ?_;intro v9 w9 ho2 hb2 hg2;clear hg2;rw [HPc.o] at ho2;have HO9:=Zz ho2;have HB9:=Zz hb2;clear ho2 hb2;obtain ⟨A9,c9,rfl,_,_⟩:=Kd.own_slice HO9.o))
    go_wp2;go_roundw
    case rel=>exact ⟨k + 1,by go_num,by omega,Zz ⟨by have h:=HO9.o;rwa [Zl] at h,HB9.o⟩⟩
    case measure=>simp [intOf];omega
   ·
    have hm4:((k:Int) % 4 != 0) = true:=by simp;omega
    obtain ⟨j,hj⟩:∃ j,j = k - 1:=⟨_,rfl⟩;have hwj:IntKind.i64.wrap ((k:Int) - 1) = (j:Int):=by rw [Zw];omega
    have ij:(j:Int) < (l.length:Int):=by omega
    have hjl:j < l.length:=by omega
    have hcy:=(HI.o.2.cell (p:=⟨b,off + j,none⟩) hbs).trans (hcells j hjl);have hgy:=List.getD_eq_getElem?_getD (l:=l) (i:=k - 1) (a:=[]);rw [<- hj,Zg hjl] at hgy;have hys:=HS.o _ (Zm hjl);obtain ⟨y,hy⟩:∃ y,y = l[j]:=⟨_,rfl⟩;rw [<- hy] at hcy hys;have HC:=Zz (fun W=>shared_calls y x (by omega) (by omega) W);have hsr:=shared_right y x;have HO:Hid (outN l k = shared y x):=Zz (by
     unfold outN;rw [if_neg h4,HGd.o,<- hj,hgy,hy];rfl)
    obtain ⟨n,hn⟩:∃ n,n = shared y x:=⟨_,rfl⟩;rw [<- hn] at HC HO hsr;obtain ⟨m,hmd⟩:∃ m,m = x.length - n:=⟨_,rfl⟩;have HI2:=Zz (fun W (h:Below wr.heap.size wr W)=>(⟨Kd.own_below HI.o.1 h,bel_step HI.o.2 h⟩:byteK.own 5 W w.heap.size TT (.slice A3 B1.length c3) B1/\Below w.heap.size w W));clear hcells hx h4 hy hgy hj hn;go_wp2_with fail;refine (HC.o _).mono ?_;rintro e w7 ⟨rfl,hb⟩;have HO1:=Zz (HI2.o w7 hb).1;have HB1:=Zz (HI2.o w7 hb).2;clear hb HC HI2;have hm:x.length - n = m:=hmd.symm;have w1:IntKind.i64.wrap ((x.length:Int) - n) = (m:Int):=by rw [Zw];omega
    have w2:(x.length:Int) - n = (m:Int):=by omega
    have HTwo:=Zz (fun W=>two_row W n m (by omega) (by omega));have hxe:(mkS x).extract n x.length = mkS (x.drop n):=by rw [mkS_extract];congr 1;rw [List.take_of_length_le (by rw [Zj];omega)]
    have hxe2:(mkS x).extract n (mkS x).size = mkS (x.drop n):=by rw [zx];exact hxe
    have HPc:Hid (B1 ++ [UInt8.ofNat n,UInt8.ofNat m] ++ (x.drop n) = headN l.length ++ upTo l (k + 1)):=Zz (by
     rw [HBe.o,upTo_succ,piece,HO.o,HGd.o,hm];simp)
    have HLen2:=Zz (HUp.o (k + 1) hlt);rw [<- HPc.o] at HLen2;have hl1:B1.length + 2 <= 100000:=by have:=HLen2.o;simp only [Zl,Zc,List.length_nil] at this |-;omega
    obtain ⟨B2,hB2⟩:∃ B2,B2 = B1 ++ [UInt8.ofNat n,UInt8.ofNat m]:=⟨_,rfl⟩;rw [<- hB2] at HPc HLen2;have hl2:B2.length + (x.drop n).length <= 100000:=by have:=HLen2.o;rw [Zl] at this;exact this
    have HB2e:=Zz hB2;obtain ⟨X,hX⟩:∃ X,X = (x.drop n):=⟨_,rfl⟩;rw [<- hX] at HPc hl2 hxe hxe2;have HXE:=Zz hxe;have HXE2:=Zz hxe2;clear HLen2 hmd hm hB2 hX hxe hxe2;go_wp2_with (at_builtin;first | (refine Kd.own_app byteK w.heap.size rfl (.tmp 47) (.tmp 55) 55 5 (.int .u8 0) 1 rfl underlying55 PackW.info_u8 rfl (by decide) _ B1 [UInt8.ofNat n,UInt8.ofNat m] (some ⟨w7.heap.size,0,none⟩) 2 TT (by rfl) (by rfl) (Kd.own_alloc HO1.o _) (.inr ⟨HTwo.o _,any_u8⟩) (bel_alloc HB1.o _) (by have:=HB1.o.size;simp;omega) (by simp;omega) ?_;intro v1 w8 ho1 hb1 hg1 hv1;clear hg1 hv1;rw [<- HB2e.o] at ho1;have HO8:=Zz ho1;have HB8:=Zz hb1;clear ho1 hb1;obtain ⟨A8,c8,rfl,_,_⟩:=Kd.own_slice HO8.o) | (refine own_app_str rfl (.tmp 57) (.tmp 60) (by rfl) w.heap.size _ B2 X (by rfl) (by first | rfl | exact congrArg Value.string HXE.o | exact congrArg Value.string HXE2.o) HO8.o HB8.o HB8.o.size (by omega) ?_;intro v9 w9 ho2 hb2 hg2;clear hg2;rw [HPc.o] at ho2;have HO9:=Zz ho2;have HB9:=Zz hb2;clear ho2 hb2;obtain ⟨A9,c9,rfl,_,_⟩:=Kd.own_slice HO9.o))
    go_wp2;go_roundw
    case rel=>exact ⟨k + 1,by go_num,by omega,Zz ⟨by have h:=HO9.o;rwa [Zl] at h,HB9.o⟩⟩
    case measure=>simp [intOf];omega
  ·
   have hd:decide ((k:Int) < (l.length:Int)) = false:=dF (by omega);have hd2:decide (k < l.length) = false:=dF hlt;obtain rfl:k = l.length:=by omega
   have HO1:=Zz HI.o.1;have HB1:=Zz HI.o.2;have HBf:Hid (frontB l = B1):=Zz HBe.o.symm;clear HI;go_wp2;go_ret;exact ⟨⟨_,rfl,by rw [HBf.o];exact HO1.o⟩,HB1.o⟩
end FrontW
set_option linter.unusedSectionVars false
namespace IdsW
open Go.RowKit Go.Lib B Rd OrdG StoreW IdsCmp TermW
structure Pat where
 a:Int
 b:Int
 c:Int
deriving DecidableEq
def Pat.at (p:Pat):Nat -> Int
 | 0=>p.a
 | 1=>p.b
 | _=>p.c
def anyP:Pat:=⟨0,0,0⟩
def fitsB (n:Int) (x:Nat):Bool:=decide (n = 0) || decide (n = (x:Int))
def matchP (p:Pat) (x:Ids):Bool:=fitsB p.a x.a && fitsB p.b x.b && fitsB p.c x.c
theorem filter_any (l:List Ids):l.filter (matchP anyP) = l:=List.filter_eq_self.2 fun x _=>rfl
theorem match_no {p:Pat} {x:Ids} {k:Nat} (hk:k < 3) (h0:p.at k ≠ 0) (h1:p.at k ≠ (at3 x k:Nat)):matchP p x = false:=by
 unfold matchP fitsB
 match k,hk with
 | 0,_=>simp only [Pat.at,at3] at h0 h1;simp [h0,h1]
 | 1,_=>simp only [Pat.at,at3] at h0 h1;simp [h0,h1]
 | 2,_=>simp only [Pat.at,at3] at h0 h1;simp [h0,h1]
theorem match_yes {p:Pat} {x:Ids} (h:∀ k,k < 3 -> p.at k = 0 \/ p.at k = (at3 x k:Nat)):matchP p x = true:=by
 have a0:=h 0 (by decide);have a1:=h 1 (by decide);have a2:=h 2 (by decide);simp only [Pat.at,at3] at a0 a1 a2;unfold matchP fitsB;simp [a0,a1,a2]
def P3 (w:World) (g o:Nat) (p:Pat):Prop:=∀ k,k < 3 -> w.cell? ⟨g,o + k,none⟩ = some (.int .i64 (p.at k))
def patL (p:Pat):List Value:=[.int .i64 p.a,.int .i64 p.b,.int .i64 p.c]
theorem P3.of {w:World} {g o:Nat} {x:Pat} (h:∀ j u,(patL x)[j]? = some u -> w.cell? ⟨g,o + j,none⟩ = some u):P3 w g o x:=fun k hk=>by
 match k,hk with
 | 0,_=>exact h 0 _ rfl
 | 1,_=>exact h 1 _ rfl
 | 2,_=>exact h 2 _ rfl
theorem P3.lt {w:World} {g o:Nat} {x:Pat} (h:P3 w g o x):g < w.heap.size:=World.block_lt_of_cell? w ⟨g,o + 0,none⟩ (h 0 (by decide))
theorem P3.moved {w w':World} {g o:Nat} {x:Pat} (h:P3 w g o x) (hm:w'.heap[g]? = w.heap[g]?):P3 w' g o x:=fun k hk=>(World.cell?_of_block (a:=⟨g,o + k,none⟩) hm).trans (h k hk)
theorem P3.below {w w':World} {g o:Nat} {x:Pat} (h:P3 w g o x) (hb:Below w.heap.size w w'):P3 w' g o x:=h.moved (hb.block g h.lt)
theorem P3.new (w:World) (x:Pat):P3 (w.alloc (.cells (patL x).toArray 40)) w.heap.size 0 x:=P3.of fun j u hu=>by
 unfold World.cell?
 dsimp only
 rw [Kd.heap_new,Nat.zero_add]
 simpa using hu
def put3 (w:World) (g o:Nat) (t:Ids):World:=((w.setCell ⟨g,o,none⟩ (.int .i64 (t.a:Nat))).setCell ⟨g,o + 1,none⟩ (.int .i64 (t.b:Nat))).setCell ⟨g,o + 2,none⟩ (.int .i64 (t.c:Nat))
theorem put3_other (w:World) (g o:Nat) (t:Ids) (j:Nat) (h:j < o \/ o + 3 <= j):(put3 w g o t).cell? ⟨g,j,none⟩ = w.cell? ⟨g,j,none⟩:=by
 unfold put3
 iterate 3 rw [Zo _ _ _ _ (by simp;try omega)]
theorem put3_frozen (w:World) (g o:Nat) (t:Ids) (a:Addr):(put3 w g o t).frozen? a = w.frozen? a:=by
 unfold put3
 iterate 3 rw [World.frozen?_setCell]
theorem put3_grown (w:World) (g o:Nat) (t:Ids):w.grownBy (put3 w g o t) (some g):=by
 unfold put3
 iterate 3 refine TermW.set_grown ?_ _ _
 exact World.grownBy.refl _ _
theorem put3_same {w:World} {g o:Nat} {t0:Ids} (h:I3 w g o t0) (t:Ids):I3 (put3 w g o t) g o t:=by
 have s0:(w.cell? ⟨g,o,none⟩).isSome = true:=by have:=h 0 (by decide);rw [Nat.add_zero] at this;rw [this];rfl
 have s1:(w.cell? ⟨g,o + 1,none⟩).isSome = true:=by rw [h 1 (by decide)];rfl
 have s2:(w.cell? ⟨g,o + 2,none⟩).isSome = true:=by rw [h 2 (by decide)];rfl
 unfold put3;intro k hk
 match k,hk with
 | 0,_ =>
  rw [Nat.add_zero]
  iterate 2 rw [Zo _ _ _ _ (by simp)]
  exact TermW.same_of s0
 | 1,_ =>
  iterate 1 rw [Zo _ _ _ _ (by simp)]
  exact TermW.same_of (TermW.some_set s1)
 | 2,_=>exact TermW.same_of (TermW.some_set (TermW.some_set s2))
structure IR (W:World) (g:Nat) (l:List Ids) (w:World):Prop where
 grown:W.grownBy w (some g)
 cells:∀ i (h:i < l.length),I3 w g (i * 3) l[i]
 free:∀ j,j < l.length * 3 -> w.frozen? ⟨g,j,none⟩ = false
theorem IR.below {W w w':World} {g:Nat} {l:List Ids} (h:IR W g l w) (hg:g < w.heap.size) (hb:Below w.heap.size w w'):IR W g l w':=
 ⟨h.grown.trans ⟨hb.os,hb.tape,hb.output,hb.size,fun k hk _=>hb.block k hk⟩,fun i hi=>(h.cells i hi).below hb,fun j hj=>(hb.frozen (p:=⟨g,j,none⟩) hg).trans (h.free j hj)⟩
theorem IR.at {W w:World} {g:Nat} {l:List Ids} (h:IR W g l w) {q:Nat} {x:Ids} (hx:l[q]? = some x):I3 w g (q * 3) x:=by
 obtain ⟨hi,rfl⟩:=List.getElem?_eq_some_iff.1 hx;exact h.cells q hi
theorem IR.set {W w:World} {g:Nat} {l:List Ids} (h:IR W g l w) (i:Nat) (hi:i < l.length) (x:Ids):IR W g (l.set i x) (put3 w g (i * 3) x):=by
 refine ⟨h.grown.trans (put3_grown _ _ _ _),fun k hk=>?_,fun q hq=>?_⟩
 ·
  have hk':k < l.length:=by rw [List.length_set] at hk;exact hk
  by_cases e:k = i
  ·
   subst e;rw [List.getElem_set_self];exact put3_same (h.cells k hk') _
  ·
   rw [List.getElem_set_ne (fun h=>e h.symm)];have hc:=h.cells k hk';exact fun d hd=>(put3_other _ _ _ _ _ (by omega)).trans (hc d hd)
 ·
  rw [put3_frozen];rw [List.length_set] at hq;exact h.free q hq
theorem IR.of_own {w:World} {base:Nat} {ok:Nat -> Prop} {v:Value} {l:List Ids} (h:idsK.own 40 w base ok v l) (hp:0 < l.length) :
  ∃ g cap,v = .slice (some ⟨g,0,none⟩) l.length cap/\base <= g/\g < w.heap.size/\l.length <= cap/\cap <= maxLen/\IR w g l w:=by
 obtain ⟨_,cells,ho,hr⟩:=h;have ho':=ho;rcases ho'.2 with ⟨_,h0⟩ | ⟨g,cap,cur,rfl,hg,hh,hnc,hcm,hcs,htake⟩
 ·
  omega
 ·
  have hlt:g < w.heap.size:=(Array.getElem?_eq_some_iff.1 hh).1;refine ⟨g,cap,rfl,hg,hlt,hnc,hcm,World.grownBy.refl _ _,fun i hi=>?_,fun j hj=>?_⟩
  ·
   obtain ⟨hc,_⟩:=hr i l[i] (Zg hi);refine I3.of fun j u hu=>?_
   rw [<- hc] at hu;have:=ho.cells rfl _ _ (Kd.take_drop_get hu);rw [add_plain] at this;exact this
  ·
   unfold World.frozen?;dsimp only;rw [hh];simp
theorem IR.sl {W w:World} {g cap:Nat} {l:List Ids} (h:IR W g l w) (hf:∀ t ∈ l,FitsI t) (hl:l.length <= 140737488355328) (hc:l.length <= cap) (hcm:cap <= maxLen) (ok:Nat -> Prop) (hok:ok g) :
  idsK.sl.M w ok l [.slice (some ⟨g,0,none⟩) l.length cap]:=by
 refine ⟨some ⟨g,0,none⟩,cap,rfl,hc,⟨hl,hcm⟩,fun h=>(by cases h),fun i x hx=>?_⟩;obtain ⟨hi,rfl⟩:=List.getElem?_eq_some_iff.1 hx;refine ⟨_,idsL l[i],rfl,hok,⟨rfl,hf _ (Zm hi)⟩,fun j u hu=>?_⟩;rw [add_plain];have hc3:=h.cells i hi;have hj:j < 3:=(List.getElem?_eq_some_iff.1 hu).1
 match j,hj with
 | 0,_=>cases hu;exact hc3 0 (by decide)
 | 1,_=>cases hu;exact hc3 1 (by decide)
 | 2,_=>cases hu;exact hc3 2 (by decide)
section
variable {α : Type} [DecidableEq α] {f : α → Bool}
structure FI (f:α -> Bool) (R l':List α) (L k j:Nat):Prop where
 len:l'.length = L
 head:l'.take k = (R.take j).filter f
 tail:∀ q,j <= q -> l'[q]? = R[q]?
theorem FI.start {R:List α} {L k:Nat} (hL:R.length = L) (hk:k < L) (hy:∀ i (h:i < R.length),i < k -> f R[i] = true) (hn:f (R[k]'(by omega)) = false):FI f R R L k (k + 1):=by
 refine ⟨hL,?_,fun q _=>rfl⟩;rw [Zt (by omega),List.filter_append,List.filter_cons,hn];simp only [List.filter_nil];rw [if_neg (by simp),Ze];exact (List.filter_eq_self.2 fun x hx=>by
  obtain ⟨i,hi,rfl⟩:=List.mem_take_iff_getElem.1 hx;exact hy i (by omega) (by omega)).symm
theorem FI.drop {R l':List α} {L k j:Nat} (h:FI f R l' L k j) (hL:R.length = L) (hj:j < L) (hn:f (R[j]'(by omega)) = false):FI f R l' L k (j + 1):=
 ⟨h.len,by
  rw [Zt (by omega),List.filter_append,List.filter_cons,hn,h.head]
  simp,fun q hq=>h.tail q (by omega)⟩
theorem FI.put {R l':List α} {L k j:Nat} (h:FI f R l' L k j) (hL:R.length = L) (hkj:k < j) (hj:j < L) (hy:f (R[j]'(by omega)) = true):FI f R (l'.set k (R[j]'(by omega))) L (k + 1) (j + 1):=
 ⟨by rw [List.length_set];exact h.len,by
  rw [Zt (l:=R) (by omega),List.filter_append,List.filter_cons,hy,TermW.take_set_lt _ _ _ (by rw [h.len];omega),h.head]
  simp,fun q hq=>by rw [List.getElem?_set_ne (by omega)];exact h.tail q (by omega)⟩
end
theorem run_cutk (w:World) (g L cap k:Nat) (hk:k < L) (hc:L <= cap):(Instr.slice 48 (.slice (some ⟨g,0,none⟩) L cap) (some (.int .i64 (k:Int))) none none).run Tryz.prog w = .ok (.slice (some ⟨g,k * 3,none⟩) (L - k) (cap - k)) w:=by
 have hu:(Tryz.prog).underlying 48 = some (.slice ((Tryz.prog).elem 48)):=by
  have:=underlying48;simp [Program.elem,this]
 have hs:∀ w,(sizeOf 40).run Tryz.prog w = .ok 3 w:=sizeOf40;have he:(Tryz.prog).elem 48 = 40:=by simp [Program.elem,underlying48]
 rw [run_slice_l w _ _ L cap hu .i64 (k:Int) (by omega) (by omega),he,hs];have:¬ cap = k:=by omega
 simp [sliced,Result.andThen,this,Addr.add_lit]
theorem run_takek (w:World) (g L cap k:Nat) (hk:k <= L) (hk0:0 < L) (hc:L <= cap):(Instr.slice 48 (.slice (some ⟨g,0,none⟩) L cap) none (some (.int .i64 (k:Int))) none).run Tryz.prog w = .ok (.slice (some ⟨g,0,none⟩) k cap) w:=by
 have hu:(Tryz.prog).underlying 48 = some (.slice ((Tryz.prog).elem 48)):=by
  have:=underlying48;simp [Program.elem,this]
 have hs:∀ w,(sizeOf 40).run Tryz.prog w = .ok 3 w:=sizeOf40;have he:(Tryz.prog).elem 48 = 40:=by simp [Program.elem,underlying48]
 rw [run_slice_h w _ _ L cap hu .i64 (k:Int) (by omega) (by omega),he,hs];have:¬ cap = 0:=by omega
 simp [sliced,Result.andThen,this,Addr.add_lit]
theorem run_idx0 (a b c:Int) (w:World):(Instr.index 40 (.agg #[.int .i64 a,.int .i64 b,.int .i64 c]) (.int .i64 0)).run Tryz.prog w = .ok (.int .i64 a) w:=by
 have h:=underlying40;have hs:=sizeOf3;simp [Instr.index,run_underlying h,asIntOf,go_sem]
theorem run_idx1 (a b c:Int) (w:World):(Instr.index 40 (.agg #[.int .i64 a,.int .i64 b,.int .i64 c]) (.int .i64 1)).run Tryz.prog w = .ok (.int .i64 b) w:=by
 have h:=underlying40;have hs:=sizeOf3;simp [Instr.index,run_underlying h,asIntOf,go_sem]
theorem run_idx2 (a b c:Int) (w:World):(Instr.index 40 (.agg #[.int .i64 a,.int .i64 b,.int .i64 c]) (.int .i64 2)).run Tryz.prog w = .ok (.int .i64 c) w:=by
 have h:=underlying40;have hs:=sizeOf3;simp [Instr.index,run_underlying h,asIntOf,go_sem]
def zeroV:Value:=.agg #[.int .i64 0,.int .i64 0,.int .i64 0]
theorem zeroCells_len (n:Nat):(Builtin.zeroCells zeroV.cells n).toList.length = n * 3:=by
 simp [Builtin.zeroCells,zeroV,Value.cells]
theorem zeroCells_one (n:Nat):∀ v ∈ (Builtin.zeroCells zeroV.cells n).toList,v.oneCell' = true:=by
 intro v hv;have key:∀ k:Nat,k < 3 -> ((zeroV.cells)[k]!).oneCell' = true:=by decide
 simp [Builtin.zeroCells] at hv;obtain ⟨i,hi,rfl⟩:=hv;exact key _ (Nat.mod_lt _ (by decide))
theorem run_clear (w:World) (ty:TypeId) (b o n c:Nat) (hn:0 < n) (hc:∀ j,j < n * 3 -> (w.cell? ⟨b,o + j,none⟩).isSome = true) (hf:∀ j,j < n * 3 -> w.frozen? ⟨b,o + j,none⟩ = false) :
  (Builtin.clear_ #[48] ty #[.slice (some ⟨b,o,none⟩) n c]).run Tryz.prog w = .ok (.tuple #[]) (w.setCells b o (Builtin.zeroCells zeroV.cells n).toList):=by
 have hv:∀ w,(zeroValue 40).run Tryz.prog w = .ok zeroV w:=zeroValue40;have hst:=run_storeCells_cells (P:=Tryz.prog) b o (Builtin.zeroCells zeroV.cells n).toList 0 w (by rw [zeroCells_len];simpa using hc) (by rw [zeroCells_len];simpa using hf) (zeroCells_one n);simp only [Nat.add_zero] at hst;obtain ⟨m,rfl⟩:∃ m,n = m + 1:=⟨n - 1,by omega⟩;simp only [Builtin.clear_];simp [run_underlying underlying48,hv,hst]
end IdsW
namespace IdsAll
open Go.RowKit Go.Lib B Rd OrdG StoreW IdsCmp IdsW Clones
theorem matches_calls (p:Pat) (x:Ids) (w:World):Calls Tryz.prog 54 #[.agg (patL p).toArray,.agg (idsL x).toArray] w fun e w'=>e = .returned (.bool (matchP p x))/\Below w.heap.size w w':=by
 have hb:Below w.heap.size w ((w.alloc (.cells (patL p).toArray 40)).alloc (.cells (idsL x).toArray 40)):=bel_alloc (bel_alloc (bR _ _) _) _;have hp:P3 ((w.alloc (.cells (patL p).toArray 40)).alloc (.cells (idsL x).toArray 40)) w.heap.size 0 p:=(P3.new w p).below (bel_alloc (bR _ _) _);have hx:I3 ((w.alloc (.cells (patL p).toArray 40)).alloc (.cells (idsL x).toArray 40)) (w.heap.size + 1) 0 x:=by
  have:=I3.new (w.alloc (.cells (patL p).toArray 40)) x
  rwa [show (w.alloc (.cells (patL p).toArray 40)).heap.size = w.heap.size + 1 by simp] at this
 obtain ⟨w0,hw0⟩:∃ w0,w0 = ((w.alloc (.cells (patL p).toArray 40)).alloc (.cells (idsL x).toArray 40)):=⟨_,rfl⟩;rw [<- hw0] at hb hp hx;have HB:=Zz hb;have HW:Hid ((w.alloc (.cells (patL p).toArray 40)).alloc (.cells (idsL x).toArray 40) = w0):=Zz hw0.symm;have p0:=hp 0 (by decide);have p1:=hp 1 (by decide);have p2:=hp 2 (by decide);have x0:=hx 0 (by decide);have x1:=hx 1 (by decide);have x2:=hx 2 (by decide);simp only [Nat.zero_add,Pat.at,at3] at p0 p1 p2 x0 x1 x2;have HN:=Zz (fun k hk=>match_no (p:=p) (x:=x) (k:=k) hk);have HY:=Zz (match_yes (p:=p) (x:=x));obtain ⟨v,hv⟩:∃ v,v = matchP p x:=⟨_,rfl⟩;rw [<- hv] at HN HY;rw [<- hv];clear hb hp hx hw0 hv;obtain ⟨pa,pb,pc⟩:=p;obtain ⟨xa,xb,xc⟩:=x;unfold patL idsL at *;dsimp only at *;have hi0:=fun w=>run_idx0 pa pb pc w
 have hi1:=fun w=>run_idx1 pa pb pc w
 have hi2:=fun w=>run_idx2 pa pb pc w
 go_enter func54,ntmps54;go_upto_region 1 with fail
 rw [HW.o];clear HW;go_wp2;go_loopw [8] (fun vk wr=>∃ k:Nat,vk = .int .i64 k/\k <= 3/\Hid (∀ j,j < k -> (⟨pa,pb,pc⟩:Pat).at j = 0 \/ (⟨pa,pb,pc⟩:Pat).at j = (at3 ⟨xa,xb,xc⟩ j:Nat))/\w0 = wr) (fun vk _=>3 - (intOf vk).toNat)
 case atStart=>exact ⟨0,rfl,by omega,Zz (fun j h=>absurd h (by omega)),rfl⟩
 case round =>
  obtain ⟨k,rfl,hk,HJ,rfl⟩:=hrel;rcases (by omega:k = 0 \/ k = 1 \/ k = 2 \/ k = 3) with rfl | rfl | rfl | rfl
  ·
   by_cases h0:pa = 0
   ·
    have hn0:(pa != 0) = false:=by simp [h0]
    have HJ2:Hid (∀ j,j < 1 -> (⟨pa,pb,pc⟩:Pat).at j = 0 \/ (⟨pa,pb,pc⟩:Pat).at j = (at3 ⟨xa,xb,xc⟩ j:Nat)):=Zz (fun j hj=>by
     by_cases e:j = 0
     ·
      subst e;exact .inl h0
     ·
      exact HJ.o j (by omega))
    clear h0 HJ;go_wp2;go_roundw
    case rel=>exact ⟨1,by go_num,by omega,HJ2,by first | rfl | trivial⟩
    case measure=>simp [intOf]
   ·
    have hn0:(pa != 0) = true:=by simp [h0]
    by_cases h1:pa = (xa:Int)
    ·
     have hn1:(pa != (xa:Int)) = false:=by simp [h1]
     have HJ2:Hid (∀ j,j < 1 -> (⟨pa,pb,pc⟩:Pat).at j = 0 \/ (⟨pa,pb,pc⟩:Pat).at j = (at3 ⟨xa,xb,xc⟩ j:Nat)):=Zz (fun j hj=>by
      by_cases e:j = 0
      ·
       subst e;exact .inr h1
      ·
       exact HJ.o j (by omega))
     clear h0 h1 HJ;go_wp2;go_roundw
     case rel=>exact ⟨1,by go_num,by omega,HJ2,by first | rfl | trivial⟩
     case measure=>simp [intOf]
    ·
     have hn1:(pa != (xa:Int)) = true:=by simp [h1]
     have HV:=Zz (HN.o 0 (by decide) h0 h1);clear h0 h1 HJ;go_wp2;go_ret;exact ⟨by rw [HV.o];rfl,HB.o⟩
  ·
   by_cases h0:pb = 0
   ·
    have hn0:(pb != 0) = false:=by simp [h0]
    have HJ2:Hid (∀ j,j < 2 -> (⟨pa,pb,pc⟩:Pat).at j = 0 \/ (⟨pa,pb,pc⟩:Pat).at j = (at3 ⟨xa,xb,xc⟩ j:Nat)):=Zz (fun j hj=>by
     by_cases e:j = 1
     ·
      subst e;exact .inl h0
     ·
      exact HJ.o j (by omega))
    clear h0 HJ;go_wp2;go_roundw
    case rel=>exact ⟨2,by go_num,by omega,HJ2,by first | rfl | trivial⟩
    case measure=>simp [intOf]
   ·
    have hn0:(pb != 0) = true:=by simp [h0]
    by_cases h1:pb = (xb:Int)
    ·
     have hn1:(pb != (xb:Int)) = false:=by simp [h1]
     have HJ2:Hid (∀ j,j < 2 -> (⟨pa,pb,pc⟩:Pat).at j = 0 \/ (⟨pa,pb,pc⟩:Pat).at j = (at3 ⟨xa,xb,xc⟩ j:Nat)):=Zz (fun j hj=>by
      by_cases e:j = 1
      ·
       subst e;exact .inr h1
      ·
       exact HJ.o j (by omega))
     clear h0 h1 HJ;go_wp2;go_roundw
     case rel=>exact ⟨2,by go_num,by omega,HJ2,by first | rfl | trivial⟩
     case measure=>simp [intOf]
    ·
     have hn1:(pb != (xb:Int)) = true:=by simp [h1]
     have HV:=Zz (HN.o 1 (by decide) h0 h1);clear h0 h1 HJ;go_wp2;go_ret;exact ⟨by rw [HV.o];rfl,HB.o⟩
  ·
   by_cases h0:pc = 0
   ·
    have hn0:(pc != 0) = false:=by simp [h0]
    have HJ2:Hid (∀ j,j < 3 -> (⟨pa,pb,pc⟩:Pat).at j = 0 \/ (⟨pa,pb,pc⟩:Pat).at j = (at3 ⟨xa,xb,xc⟩ j:Nat)):=Zz (fun j hj=>by
     by_cases e:j = 2
     ·
      subst e;exact .inl h0
     ·
      exact HJ.o j (by omega))
    clear h0 HJ;go_wp2;go_roundw
    case rel=>exact ⟨3,by go_num,by omega,HJ2,by first | rfl | trivial⟩
    case measure=>simp [intOf]
   ·
    have hn0:(pc != 0) = true:=by simp [h0]
    by_cases h1:pc = (xc:Int)
    ·
     have hn1:(pc != (xc:Int)) = false:=by simp [h1]
     have HJ2:Hid (∀ j,j < 3 -> (⟨pa,pb,pc⟩:Pat).at j = 0 \/ (⟨pa,pb,pc⟩:Pat).at j = (at3 ⟨xa,xb,xc⟩ j:Nat)):=Zz (fun j hj=>by
      by_cases e:j = 2
      ·
       subst e;exact .inr h1
      ·
       exact HJ.o j (by omega))
     clear h0 h1 HJ;go_wp2;go_roundw
     case rel=>exact ⟨3,by go_num,by omega,HJ2,by first | rfl | trivial⟩
     case measure=>simp [intOf]
    ·
     have hn1:(pc != (xc:Int)) = true:=by simp [h1]
     have HV:=Zz (HN.o 2 (by decide) h0 h1);clear h0 h1 HJ;go_wp2;go_ret;exact ⟨by rw [HV.o];rfl,HB.o⟩
  ·
   have HV:=Zz (HY.o HJ.o);go_wp2;go_ret;exact ⟨by rw [HV.o];rfl,HB.o⟩
def clV (h:Nat):Value:=.func (.func 53) #[] #[.pointer (some ⟨h,0,none⟩)]
theorem clo_calls (p:Pat) (x:Ids) (h:Nat) (w:World) (hp:P3 w h 0 p):Calls Tryz.prog 53 #[.agg (idsL x).toArray,.pointer (some ⟨h,0,none⟩)] w fun e w'=>e = .returned (.bool (!matchP p x))/\Below w.heap.size w w':=by
 have hb:Below w.heap.size w (w.alloc (.cells (idsL x).toArray 40)):=bel_alloc (bR _ _) _;have hp2:=hp.below hb;have hx:=I3.new w x;obtain ⟨w0,hw0⟩:∃ w0,w0 = w.alloc (.cells (idsL x).toArray 40):=⟨_,rfl⟩;rw [<- hw0] at hb hp2 hx;have HB:=Zz hb;have HW:Hid (w.alloc (.cells (idsL x).toArray 40) = w0):=Zz hw0.symm;have HM:=Zz (matches_calls p x w0);have p0:=hp2 0 (by decide);have p1:=hp2 1 (by decide);have p2:=hp2 2 (by decide);have x0:=hx 0 (by decide);have x1:=hx 1 (by decide);have x2:=hx 2 (by decide);simp only [Nat.zero_add,Pat.at,at3] at p0 p1 p2 x0 x1 x2;generalize matchP p x = v at *;clear hb hp hp2 hx hw0;obtain ⟨pa,pb,pc⟩:=p;obtain ⟨xa,xb,xc⟩:=x;unfold patL idsL at *;dsimp only at *;go_enter func53,ntmps53;go_upto_region 1 with fail
 rw [HW.o];clear HW;go_wp2_with fail;refine HM.o.mono ?_;rintro e w2 ⟨rfl,hb2⟩;have HB2:=Zz (bel_step HB.o hb2);clear hb2 HM;go_wp2;go_ret;exact ⟨rfl,HB2.o⟩
def firstNot (f:Ids -> Bool) (R:List Ids):Int:=if (R.takeWhile f).length < R.length then ((R.takeWhile f).length:Nat) else -1
theorem takeWhile_at {f:Ids -> Bool}:∀ (R:List Ids) (k:Nat) (h:k < R.length),(∀ i (hi:i < R.length),i < k -> f R[i] = true) -> f R[k] = false -> (R.takeWhile f).length = k
 | [],k,h,_,_=>by simp at h
 | x :: R,0,h,_,hn=>by
  rw [List.takeWhile_cons]
  simp at hn
  simp [hn]
 | x :: R,k + 1,h,hy,hn=>by
  have h0:=hy 0 (by simp) (by omega)
  simp at h0
  rw [List.takeWhile_cons,if_pos h0,Zc,takeWhile_at R k (by simpa using h) (fun i hi hlt=>by have:=hy (i + 1) (by simp;omega) (by omega);rw [List.getElem_cons_succ] at this;exact this) (by rw [List.getElem_cons_succ] at hn;exact hn)]
theorem first_at {f:Ids -> Bool} {R:List Ids} {k:Nat} (h:k < R.length) (hy:∀ i (hi:i < R.length),i < k -> f R[i] = true) (hn:f R[k] = false):firstNot f R = k:=by
 unfold firstNot;rw [takeWhile_at R k h hy hn,if_pos h]
theorem first_none {f:Ids -> Bool} {R:List Ids} (hy:∀ i (hi:i < R.length),f R[i] = true):firstNot f R = -1:=by
 have:R.takeWhile f = R:=by
  have:∀ R:List Ids,(∀ x ∈ R,f x = true) -> R.takeWhile f = R:=by
   intro R
   induction R with
   | nil=>intro _;rfl
   | cons x R ih =>
    intro h;rw [List.takeWhile_cons,if_pos (h x (by simp)),ih (fun z hz=>h z (by simp [hz]))]
  exact this R fun x hx=>by
   obtain ⟨i,hi,rfl⟩:=List.getElem_of_mem hx;exact hy i hi
 unfold firstNot;rw [this,if_neg (by omega)]
theorem index_calls (p:Pat) (R:List Ids) (L cap:Nat) (hL:R.length = L) (hLs:L <= 1000000) (g h:Nat) (W w:World) (hg:g < w.heap.size) (hS:IR W g R w) (hp:P3 w h 0 p) :
  Calls Tryz.prog 97 #[.slice (some ⟨g,0,none⟩) L cap,clV h] w fun e w'=>e = .returned (.int .i64 (firstNot (matchP p) R))/\Below w.heap.size w w':=by
 have HL:Hid (R.length = L):=Zz hL;have HS:=Zz hS;have HP:=Zz hp;have HG:=Zz hg;clear hL hS hp hg;unfold clV;go_enter func97,ntmps97;go_wp2;go_loopw [8] (fun vk wr=>∃ k:Nat,vk = .int .i64 k/\k <= L/\Hid ((∀ i (hi:i < R.length),i < k -> matchP p R[i] = true)/\Below w.heap.size w wr)) (fun vk _=>L - (intOf vk).toNat)
 case atStart=>exact ⟨0,rfl,by omega,Zz ⟨fun i hi h=>absurd h (by omega),bR _ _⟩⟩
 case round =>
  obtain ⟨k,rfl,hkL,HI⟩:=hrel;by_cases hlt:k < L
  ·
   have hd:decide (k < L) = true:=dT hlt;have ik:(k:Int) < (L:Int):=by omega
   have hcx:=HS.o.cells k (by rw [HL.o];exact hlt);have hcx2:=hcx.below HI.o.2;obtain ⟨x,hx⟩:∃ x,x = R[k]'(by rw [HL.o];exact hlt):=⟨_,rfl⟩;rw [<- hx] at hcx2;have HC:=Zz (clo_calls p x h wr (HP.o.below HI.o.2));obtain ⟨v,hv⟩:∃ v,v = matchP p x:=⟨_,rfl⟩;rw [<- hv] at HC;have x0:=hcx2 0 (by decide);have x1:=hcx2 1 (by decide);have x2:=hcx2 2 (by decide);simp only [Nat.add_zero,at3] at x0 x1 x2;clear hcx;have HB:=Zz HI.o.2;have HStep:Hid (v = true -> ∀ i (hi:i < R.length),i < k + 1 -> matchP p R[i] = true):=Zz (fun hvt i hi hlt=>by
    by_cases e:i = k
    ·
     subst e;rw [<- hx,<- hv];exact hvt
    ·
     exact HI.o.1 i hi (by omega))
   have HEnd:Hid (v = false -> firstNot (matchP p) R = (k:Nat)):=Zz (fun hvf=>first_at (by rw [HL.o];exact hlt) HI.o.1 (by rw [<- hx,<- hv];exact hvf));clear hx hv hcx2 HI;obtain ⟨xa,xb,xc⟩:=x;unfold idsL at HC;dsimp only at *;cases v
   ·
    have HV:=Zz (HEnd.o rfl);clear HEnd HStep;go_wp2_with fail;refine HC.o.mono ?_;rintro e w2 ⟨rfl,hb2⟩;have HB2:=Zz (bel_step HB.o hb2);clear hb2 HC;go_wp2;go_ret;exact ⟨by rw [HV.o];rfl,HB2.o⟩
   ·
    have HV:=Zz (HStep.o rfl);clear HEnd HStep;go_wp2_with fail;refine HC.o.mono ?_;rintro e w2 ⟨rfl,hb2⟩;have HB2:=Zz (bel_step HB.o hb2);clear hb2 HC;go_wp2;go_roundw
    case rel=>exact ⟨k + 1,by go_num,by omega,Zz ⟨HV.o,HB2.o⟩⟩
    case measure=>simp [intOf];omega
  ·
   have hd:decide (k < L) = false:=dF hlt;have HV:Hid (firstNot (matchP p) R = -1):=Zz (first_none fun i hi=>HI.o.1 i hi (by have:=HL.o;omega));have HB:=Zz HI.o.2;clear HI;go_wp2;go_ret;exact ⟨by rw [HV.o];rfl,HB.o⟩
theorem first_cases (f:Ids -> Bool) (R:List Ids):(firstNot f R = -1/\R.filter f = R) \/ ∃ k:Nat,∃ h:k < R.length,firstNot f R = k/\(∀ i (hi:i < R.length),i < k -> f R[i] = true)/\f R[k] = false:=by
 by_cases h:(R.takeWhile f).length < R.length
 ·
  right;refine ⟨(R.takeWhile f).length,h,by unfold firstNot;rw [if_pos h],fun i hi hlt=>?_,?_⟩
  ·
   have hm:(R.takeWhile f)[i] ∈ R.takeWhile f:=Zm hlt;have e:(R.takeWhile f)[i] = R[i]:=by
    have:=List.takeWhile_prefix (p:=f) (l:=R);obtain ⟨t,ht⟩:=this;have h1:R[i]? = (R.takeWhile f)[i]?:=by
     conv=>lhs;rw [<- ht]
     rw [List.getElem?_append_left hlt]
    rw [Zg hi,Zg hlt] at h1;exact (Option.some.inj h1).symm
   rw [<- e];exact List.all_eq_true.1 List.all_takeWhile _ hm
  ·
   have:∀ (R:List Ids) (h:(R.takeWhile f).length < R.length),f (R[(R.takeWhile f).length]'h) = false:=by
    intro R
    induction R with
    | nil=>intro h;simp at h
    | cons x R ih =>
     intro h;by_cases hx:f x = true
     ·
      have e:(x :: R).takeWhile f = x :: R.takeWhile f:=by rw [List.takeWhile_cons,if_pos hx]
      have h':(R.takeWhile f).length < R.length:=by rw [e] at h;simpa using h
      have:=ih h';simp only [e,Zc,List.getElem_cons_succ];exact this
     ·
      have e:(x :: R).takeWhile f = []:=by rw [List.takeWhile_cons,if_neg hx]
      simp only [e,List.length_nil,List.getElem_cons_zero];simpa using hx
   exact this R h
 ·
  left;have e:R.takeWhile f = R:=(List.takeWhile_prefix f).eq_of_length (by have:=(List.takeWhile_prefix f (l:=R)).length_le;omega);refine ⟨by unfold firstNot;rw [if_neg h],List.filter_eq_self.2 fun x hx=>?_⟩;rw [<- e] at hx;exact List.all_eq_true.1 List.all_takeWhile _ hx
theorem delete_calls (p:Pat) (R:List Ids) (L cap:Nat) (hL:R.length = L) (hc:L <= cap) (hLs:L <= 1000000) (hcM:cap <= maxLen) (g h:Nat) (W w:World) (hg:g < w.heap.size) (hne:g ≠ h) (hS:IR W g R w) (hp:P3 w h 0 p) :
  Calls Tryz.prog 51 #[.slice (some ⟨g,0,none⟩) L cap,clV h] w fun e w'=>e = .returned (.slice (some ⟨g,0,none⟩) (R.filter (matchP p)).length cap)/\IR W g (R.filter (matchP p)) w'/\w.heap.size <= w'.heap.size:=by
 have HI:=Zz (index_calls p R L cap hL hLs g h W w hg hS hp);have HL:Hid (R.length = L):=Zz hL;have HS:=Zz hS;have HP:=Zz hp;have HG:=Zz hg;have HNe:=Zz hne;have HF:=Zz (first_cases (matchP p) R);clear hL hS hp hg hne;unfold clV at *;go_enter func51,ntmps51;rcases HF.o with ⟨hf,hall⟩ | ⟨k,hkR,hf,hyes,hno⟩
 ·
  rw [hf] at HI;have HA:=Zz hall;clear hf hall HF;rw [HA.o];go_wp2_with fail;refine HI.o.mono ?_;rintro e w2 ⟨rfl,hb2⟩;have HS2:=Zz (HS.o.below HG.o hb2);have HZ:=Zz hb2.size;clear hb2 HI;go_wp2;go_ret;exact ⟨by rw [HL.o];rfl,HS2.o,HZ.o⟩
 rw [hf] at HI;have hkL:k < L:=by rw [<- HL.o];exact hkR
 have hk1:((k:Int) == -1) = false:=by rw [Zb];omega
 have HI0:Hid (FI (matchP p) R R L k (k + 1)):=Zz (FI.start HL.o hkL (fun i hi hlt=>hyes i hi hlt) hno);clear hf hyes hno HF hkR;go_wp2_with fail;refine HI.o.mono ?_;rintro e w2 ⟨rfl,hb2⟩;have HS2:=Zz (HS.o.below HG.o hb2);have HP2:=Zz (HP.o.below hb2);have HG2:Hid (g < w2.heap.size/\w.heap.size <= w2.heap.size):=Zz ⟨Nat.lt_of_lt_of_le HG.o hb2.size,hb2.size⟩;clear hb2 HI HS HP HG;go_wp2;go_loopw [5,6] (fun vk vj wr=>∃ (k j:Nat) (l':List Ids),vk = .int .i64 k/\vj = .int .i64 j/\k < j/\j <= L/\Hid (FI (matchP p) R l' L k j/\IR W g l' wr/\P3 wr h 0 p/\g < wr.heap.size/\w.heap.size <= wr.heap.size)) (fun _ vj _=>L - (intOf vj).toNat)
 case atStart=>exact ⟨k,k + 1,R,rfl,by go_num,by omega,by omega,Zz ⟨HI0.o,HS2.o,HP2.o,HG2.o.1,HG2.o.2⟩⟩
 case round =>
  obtain ⟨k1,j,l',rfl,rfl,hkj,hjL,HR⟩:=hrel;clear HI0 HS2 HP2 HG2 hk1;by_cases hlt:j < L
  ·
   have hd:decide (j < L) = true:=dT hlt;have ij:(j:Int) < (L:Int):=by omega
   have ik:(k1:Int) < (L:Int):=by omega
   obtain ⟨x,hx⟩:∃ x,x = R[j]'(by rw [HL.o];exact hlt):=⟨_,rfl⟩;have hcx:I3 wr g (j * 3) x:=HR.o.2.1.at (by rw [HR.o.1.tail j (lR _),hx];exact Zg _);have hb:Below wr.heap.size wr (wr.alloc (.cells (idsL x).toArray 40)):=bel_alloc (bR _ _) _;have hnx:=I3.new wr x;have hpx:=HR.o.2.2.1.below hb;have hsx:=HR.o.2.1.below HR.o.2.2.2.1 hb;have x0:=hcx 0 (by decide);have x1:=hcx 1 (by decide);have x2:=hcx 2 (by decide);simp only [Nat.add_zero,at3] at x0 x1 x2;obtain ⟨w0,hw0⟩:∃ w0,w0 = wr.alloc (.cells (idsL x).toArray 40):=⟨_,rfl⟩;rw [<- hw0] at hb hnx hpx hsx;have HWX:Hid (wr.alloc (.cells (idsL x).toArray 40) = w0):=Zz hw0.symm;have HC:=Zz (clo_calls p x h w0 hpx);obtain ⟨v,hv⟩:∃ v,v = matchP p x:=⟨_,rfl⟩;rw [<- hv] at HC;have HDrop:Hid (v = false -> FI (matchP p) R l' L k1 (j + 1)):=Zz (fun e=>HR.o.1.drop HL.o hlt (by rw [<- hx,<- hv];exact e));have HPut:Hid (v = true -> FI (matchP p) R (l'.set k1 x) L (k1 + 1) (j + 1)):=Zz (fun e=>by
    have:=HR.o.1.put HL.o hkj hlt (by rw [<- hx,<- hv];exact e);rw [<- hx] at this;exact this)
   have hsz0:wr.heap.size < w0.heap.size:=by rw [hw0];simp
   have HState:Hid (IR W g l' w0/\P3 w0 h 0 p/\g < w0.heap.size/\w.heap.size <= w0.heap.size/\I3 w0 wr.heap.size 0 x/\wr.heap.size ≠ g):=Zz ⟨hsx,hpx,by have:=HR.o.2.2.2.1;omega,by have:=HR.o.2.2.2.2;omega,hnx,by have:=HR.o.2.2.2.1;omega⟩;have HLen:Hid (l'.length = L):=Zz HR.o.1.len;have y0:=hnx 0 (by decide);have y1:=hnx 1 (by decide);have y2:=hnx 2 (by decide);simp only [Nat.zero_add,at3] at y0 y1 y2;have HXc:=Zz hnx;clear hx hv hcx hb hnx hpx hsx hw0 HR;obtain ⟨xa,xb,xc⟩:=x;unfold idsL at HC HWX;dsimp only at *;cases v
   ·
    have HV:=Zz (HDrop.o rfl);clear HDrop HPut;go_upto_region 8 with fail
    rw [HWX.o];clear x0 x1 x2 HWX;go_wp2_with fail;refine HC.o.mono ?_;rintro e w3 ⟨rfl,hb3⟩;have HN:Hid (IR W g l' w3/\P3 w3 h 0 p/\g < w3.heap.size/\w.heap.size <= w3.heap.size):=Zz ⟨HState.o.1.below HState.o.2.2.1 hb3,HState.o.2.1.below hb3,Nat.lt_of_lt_of_le HState.o.2.2.1 hb3.size,Zh HState.o.2.2.2.1 hb3.size⟩;clear hb3 HC HState y0 y1 y2 HXc;go_wp2;go_roundw
    case rel=>exact ⟨k1,j + 1,l',rfl,by go_num,by omega,by omega,Zz ⟨HV.o,HN.o.1,HN.o.2.1,HN.o.2.2.1,HN.o.2.2.2⟩⟩
    case measure=>simp [intOf];omega
   ·
    have HV:=Zz (HPut.o rfl);clear HDrop HPut;go_upto_region 8 with fail
    rw [HWX.o];clear x0 x1 x2 HWX;go_wp2_with fail;refine HC.o.mono ?_;rintro e w3 ⟨rfl,hb3⟩;have hk1l:k1 < l'.length:=by rw [HLen.o];omega
    have hs3:=HState.o.1.below HState.o.2.2.1 hb3;have HN:Hid (P3 w3 h 0 p/\g < w3.heap.size/\w.heap.size <= w3.heap.size):=Zz ⟨HState.o.2.1.below hb3,Nat.lt_of_lt_of_le HState.o.2.2.1 hb3.size,Zh HState.o.2.2.2.1 hb3.size⟩;have hx3:=HXc.o.below hb3;have a0:=hx3 0 (by decide);have a1:=hx3 1 (by decide);have a2:=hx3 2 (by decide);simp only [Nat.zero_add,at3] at a0 a1 a2;have f0:=hs3.free (k1 * 3 + 0) (by omega);have f1:=hs3.free (k1 * 3 + 1) (by omega);have f2:=hs3.free (k1 * 3 + 2) (by omega);have hz:=hs3.cells k1 hk1l;obtain ⟨z,hze⟩:∃ z,z = l'[k1]:=⟨_,rfl⟩;rw [<- hze] at hz;have z0:=hz 0 (by decide);have z1:=hz 1 (by decide);have z2:=hz 2 (by decide);simp only [Nat.add_zero,at3] at z0 z1 z2 f0;have HSW:=Zz (hs3.set k1 hk1l ⟨xa,xb,xc⟩);unfold put3 at HSW;dsimp only at HSW;have HPW:Hid (∀ q v,P3 (w3.setCell ⟨g,q,none⟩ v) h 0 p):=Zz (fun q v=>HN.o.1.moved (Below.heap_setCell _ _ _ _ (fun e=>HNe.o e.symm)));clear hb3 HC HState y0 y1 y2 HXc hx3 hs3 hz hze hk1l;go_wp2;go_roundw
    case rel=>exact ⟨k1 + 1,j + 1,l'.set k1 ⟨xa,xb,xc⟩,by go_num,by go_num,by omega,by omega,Zz ⟨HV.o,HSW.o,by refine P3.moved HN.o.1 ?_;iterate 3 (first | rw [Below.heap_setCell _ _ _ _ (fun e=>HNe.o e.symm)]),by simpa using HN.o.2.1,by simpa using HN.o.2.2⟩⟩
    case measure=>simp [intOf];omega
  ·
   have hd:decide (j < L) = false:=dF hlt;obtain rfl:j = L:=by omega
   have HEnd:Hid (R.filter (matchP p) = l'.take k1):=Zz (by
    have:=HR.o.1.head;rw [List.take_of_length_le (l:=R) (by rw [HL.o];exact lR _)] at this;exact this.symm)
   obtain ⟨n2,hn2⟩:∃ n2,n2 = j - k1:=⟨_,rfl⟩;obtain ⟨c3,hc3⟩:∃ c3,c3 = cap - k1:=⟨_,rfl⟩;have HSl2:∀ w,(Instr.slice 48 (.slice (some ⟨g,0,none⟩) j cap) (some (.int .i64 (k1:Int))) none none).run Tryz.prog w = .ok (.slice (some ⟨g,k1 * 3,none⟩) n2 c3) w:=fun w=>by rw [hn2,hc3];exact run_cutk w g j cap k1 hkj hc
   have HSl3:∀ w,(Instr.slice 48 (.slice (some ⟨g,0,none⟩) j cap) none (some (.int .i64 (k1:Int))) none).run Tryz.prog w = .ok (.slice (some ⟨g,0,none⟩) k1 cap) w:=fun w=>run_takek w g j cap k1 (by omega) (by omega) hc
   have HLl:l'.length = j:=HR.o.1.len;obtain ⟨Z,hZ⟩:∃ Z,Z = (Builtin.zeroCells zeroV.cells n2).toList:=⟨_,rfl⟩;have HClr:∀ ty,(Builtin.clear_ #[48] ty #[.slice (some ⟨g,k1 * 3,none⟩) n2 c3]).run Tryz.prog wr = .ok (.tuple #[]) (wr.setCells g (k1 * 3) Z):=fun ty=>by
    rw [hZ];refine run_clear wr ty g (k1 * 3) n2 c3 (by omega) (fun i hi=>?_) (fun i hi=>?_)
    ·
     obtain ⟨q,d,hd,he⟩:∃ q d,d < 3/\k1 * 3 + i = q * 3 + d:=⟨(k1 * 3 + i) / 3,(k1 * 3 + i) % 3,Nat.mod_lt _ (by omega),by omega⟩;rw [he];have hq:q < l'.length:=by omega
     rw [HR.o.2.1.cells q hq d hd]
     try rfl
    ·
     exact HR.o.2.1.free _ (by omega)
   have HV:Hid ((R.filter (matchP p)).length = k1/\IR W g (R.filter (matchP p)) (wr.setCells g (k1 * 3) Z)/\w.heap.size <= (wr.setCells g (k1 * 3) Z).heap.size):=Zz (by
    have hlen:(R.filter (matchP p)).length = k1:=by rw [HEnd.o,Zi];omega
    have hgr:=TermW.setCells_grown g Z (k1 * 3) wr;refine ⟨hlen,⟨HR.o.2.1.grown.trans hgr,fun i hi=>?_,fun i hi=>by rw [TermW.setCells_frozen];exact HR.o.2.1.free i (by omega)⟩,Zh HR.o.2.2.2.2 hgr.size⟩;have hi2:i < l'.length:=by omega
    have hcell:=HR.o.2.1.cells i hi2;have he:(R.filter (matchP p))[i] = l'[i]:=by
     have:∀ (A B:List Ids) (e:A = B) (h:i < A.length) (h':i < B.length),A[i] = B[i]:=by rintro A B rfl h h';rfl
     rw [this _ _ HEnd.o hi (by rw [<- HEnd.o];exact hi),List.getElem_take]
    rw [he];exact fun d hd=>(TermW.setCells_far g Z (k1 * 3) wr _ (by omega)).trans (hcell d hd))
   clear hn2 hc3 hZ HEnd HR HLl;go_wp2;go_ret;exact ⟨by rw [HV.o.1];rfl,HV.o.2⟩
end IdsAll
namespace IdsAll
open Go.RowKit Go.Lib B Rd OrdG StoreW IdsCmp IdsW Clones
theorem index_nil (A:Option Addr) (c h:Nat) (w:World) :
  Calls Tryz.prog 97 #[.slice A 0 c,clV h] w fun e w'=>e = .returned (.int .i64 (-1))/\w = w':=by
 unfold clV;go_enter func97,ntmps97;go_wp2;go_loopw [8] (fun vk wr=>vk = .int .i64 0/\w = wr) (fun vk _=>0)
 case atStart=>exact ⟨rfl,rfl⟩
 case round =>
  obtain ⟨rfl,rfl⟩:=hrel;go_wp2;go_ret;exact ⟨rfl,rfl⟩
theorem delete_nil (A:Option Addr) (c h:Nat) (w:World) :
  Calls Tryz.prog 51 #[.slice A 0 c,clV h] w fun e w'=>e = .returned (.slice A 0 c)/\w = w':=by
 have HI:=Zz (index_nil A c h w);unfold clV at *;go_enter func51,ntmps51;go_wp2_with fail;refine HI.o.mono ?_;rintro e w2 ⟨rfl,rfl⟩;go_wp2;go_ret;exact ⟨rfl,rfl⟩
theorem all_calls (p:Pat) (I:List Ids) (hI:I.length <= 100) (g:Nat) (w:World) (ok:Nat -> Prop) (h:RingAt w ok g I) :
  Calls Tryz.prog 26 #[.pointer (some ⟨g,0,none⟩),.agg (patL p).toArray] w fun e w'=>(∃ A c,e = .returned (.slice A (I.filter (matchP p)).length c)/\idsK.sl.M w' (fun k=>w.heap.size <= k/\k < w'.heap.size) (I.filter (matchP p)) [.slice A (I.filter (matchP p)).length c])/\Below w.heap.size w w':=by
 obtain ⟨_,_,A,c,hg,hM⟩:=h;have hb:Below w.heap.size w (w.alloc (.cells (patL p).toArray 40)):=bel_alloc (bR _ _) _;have hp:=P3.new w p;obtain ⟨w0,hw0⟩:∃ w0,w0 = w.alloc (.cells (patL p).toArray 40):=⟨_,rfl⟩;rw [<- hw0] at hb hp;have hz0:w0.heap.size = w.heap.size + 1:=by rw [hw0];simp
 have HWX:Hid (w.alloc (.cells (patL p).toArray 40) = w0):=Zz hw0.symm;have hM0:=Kd.M_bound (Kd.M_below (Kd.M_bound hM) hb);have HFit:Hid (∀ x ∈ I,FitsI x):=Zz (by
  obtain ⟨A',c',he,_,_,_,hrow⟩:=hM;intro x hx;obtain ⟨i,hi,rfl⟩:=List.getElem_of_mem hx;obtain ⟨b,off,_,_,_,hcells⟩:=Kd.row_addr hrow (by omega);obtain ⟨cs,⟨_,hf⟩,_⟩:=hcells i hi;exact hf)
 have HC:=Zz (clone_ids_calls I A c w0 (idsK.sl.mono (fun _ _ _=>trivial) hM0) (by omega));have hg0:w0.cell? ⟨g,3,none⟩ = some (.slice A I.length c):=(hb.cell (p:=⟨g,3,none⟩) (cell_lt hg)).trans hg;have HB:=Zz hb;have HP:=Zz hp;have HZ:=Zz hz0;have hmf:∀ (fn:Fn) (first cap:Array Value) (w:World),(Instr.makeFunc fn first cap).run Tryz.prog w = .ok (.func fn first cap) w:=fun _ _ _ _=>rfl
 clear hM hb hp hw0 hz0 hM0 hg;unfold patL at HWX;unfold patL;go_enter func26,ntmps26;go_upto_region 1 with fail
 rw [HWX.o];clear HWX;go_wp2_with fail;refine HC.o.mono ?_;rintro e w1 ⟨⟨v,rfl,ho⟩,hb⟩;have HB1:=Zz (bel_step HB.o hb);have HP1:=Zz (HP.o.below hb);have HZ1:Hid (w.heap.size < w1.heap.size):=Zz (by have:=hb.size;have:=HZ.o;omega);clear hb HC hg0;by_cases h0:I.length = 0
 ·
  obtain rfl:I = []:=Zn h0;obtain ⟨A1,c1,rfl,h1,h2⟩:=Kd.own_slice ho;have HD:=Zz (delete_nil A1 c1 w.heap.size w1);have HO:Hid (idsK.sl.M w1 (fun k=>w.heap.size <= k/\k < w1.heap.size) [] [.slice A1 0 c1]):=Zz ⟨A1,c1,rfl,Nat.zero_le _,⟨Nat.zero_le _,by
   obtain ⟨A',c',he,_,⟨_,h5⟩,_⟩:=(Kd.own_sl (ok:=TT) (ok':=TT) ho (fun _ _=>trivial) (fun _ _=>trivial));simp at he;omega⟩,h2,Kd.row_nil _ _ _ _⟩
  unfold clV at HD;simp only [List.length_nil,List.filter_nil] at *;clear ho h1 h2 h0;go_wp2_with fail;refine HD.o.mono ?_;rintro e w2 ⟨rfl,rfl⟩;go_wp2;go_ret;exact ⟨⟨A1,c1,rfl,HO.o⟩,HB1.o⟩
 ·
  obtain ⟨gr,cap,rfl,hbase,hglt,hcap,hcm,hir⟩:=IR.of_own ho (by omega);have hne:gr ≠ w.heap.size:=by have:=HZ.o;omega
  have HD:=Zz (delete_calls p I I.length cap rfl hcap (by omega) hcm gr w.heap.size w1 w1 hglt hne hir HP1.o);have HG:Hid (w.heap.size <= gr/\gr < w1.heap.size/\I.length <= cap/\cap <= maxLen):=Zz ⟨by have:=HZ.o;omega,hglt,hcap,hcm⟩;have HLe:Hid ((I.filter (matchP p)).length <= I.length):=Zz (List.length_filter_le _ _);have HFf:Hid (∀ x ∈ I.filter (matchP p),FitsI x):=Zz (fun x hx=>HFit.o x (List.mem_filter.1 hx).1);unfold clV at HD;obtain ⟨F,hF⟩:∃ F,F = I.filter (matchP p):=⟨_,rfl⟩;rw [<- hF] at HD HLe HFf;have HFe:=Zz hF;clear hF;clear ho hbase hglt hcap hcm hir hne h0;go_wp2_with fail;refine HD.o.mono ?_;rintro e w2 ⟨rfl,hir,hsz⟩;have HB2:Hid (Below w.heap.size w w2):=Zz (HB1.o.grown hir.grown (by have:=HZ1.o;omega) (fun j hj=>by have:=HG.o;cases hj;omega));have HO:Hid (idsK.sl.M w2 (fun k=>w.heap.size <= k/\k < w2.heap.size) F [.slice (some ⟨gr,0,none⟩) F.length cap]):=Zz (hir.sl HFf.o (by have:=HLe.o;omega) (by have:=HG.o;have:=HLe.o;omega) HG.o.2.2.2 _ ⟨HG.o.1,by have:=HG.o;omega⟩);clear hir hsz HD;go_wp2;go_ret;rw [<- HFe.o];exact ⟨⟨_,_,rfl,HO.o⟩,HB2.o⟩
end IdsAll
namespace CrcWalk
open Go.RowKit CrcPure B
theorem and_high (y:Nat) (h:y < 33554432):Go.bits .and .i64 (y:Int) 16777216 = if 16777216 <= y then 16777216 else 0:=by
 have hk:∀ n:Int,0 <= n -> n < 2 ^ 63 -> IntKind.i64.wrap n = n:=fun n h0 h1=>by rw [Zw];omega
 have e:=(bits_nat .i64 63 (by decide) hk y 16777216 (by omega) (by omega)).1;rw [show ((16777216:Nat):Int) = (16777216:Int) from rfl] at e;rw [e];by_cases hy:16777216 <= y
 ·
  rw [if_pos hy];have:y &&& 16777216 = 16777216:=by
   apply Nat.eq_of_testBit_eq;intro j;rw [Nat.testBit_and,show (16777216:Nat) = 2 ^ 24 by decide,Nat.testBit_two_pow];by_cases hj:24 = j
   ·
    subst hj;rw [testBit_high hy h];simp
   ·
    simp [hj]
  rw [this];rfl
 ·
  rw [if_neg hy];have:y &&& 16777216 = 0:=by
   apply Nat.eq_of_testBit_eq;intro j;rw [Nat.testBit_and,show (16777216:Nat) = 2 ^ 24 by decide,Nat.testBit_two_pow,Nat.zero_testBit];by_cases hj:24 = j
   ·
    subst hj;rw [testBit_low (by omega)];simp
   ·
    simp [hj]
  rw [this];rfl
theorem xor_i64 (a b:Nat) (ha:a < 9223372036854775808) (hb:b < 9223372036854775808):Go.bits .xor .i64 (a:Int) (b:Int) = ((a ^^^ b:Nat):Int):=by
 have hp:(2:Nat) ^ IntKind.i64.bits = 18446744073709551616:=by decide
 have ha':a % 18446744073709551616 = a:=Nat.mod_eq_of_lt (by omega);have hb':b % 18446744073709551616 = b:=Nat.mod_eq_of_lt (by omega);simp only [bits,BitVec.ofInt_natCast,BitVec.toNat_xor,BitVec.toNat_ofNat];rw [hp,ha',hb'];have:=Nat.xor_lt_two_pow (x:=a) (y:=b) (n:=63) (by omega) (by omega);rw [Zw];omega
theorem one_calls (x:Nat) (hx:x < 16777216) (c:UInt8) (w:World) :
  Calls Tryz.prog 144 #[.int .i64 x,.int .u8 c.toNat] w fun e w'=>e = .returned (.int .i64 (cstep x c:Nat))/\w = w':=by
 have hc:=c.toNat_lt;have e0:Go.bits .xor .i64 (x:Int) ((c.toNat:Int) * 65536) = ((x ^^^ c.toNat * 65536:Nat):Int):=by
  have e:=xor_i64 x (c.toNat * 65536) (by omega) (by omega);rw [Int.natCast_mul] at e;exact e
 have hlt:=in_lt hx c;have hstep:cstep x c = shN 8 (x ^^^ c.toNat * 65536):=cstep_eq x c;generalize x ^^^ c.toNat * 65536 = y0 at *;generalize cstep x c = r at *;subst hstep;go_enter func144,ntmps144;go_wp2;go_loop [0,10] (fun s i=>∃ k y:Nat,k <= 8/\i = .int .i64 k/\s = .int .i64 y/\y < 16777216/\shN (8 - k) y = shN 8 y0) (fun _ i=>8 - (intOf i).toNat)
 case atStart=>exact ⟨0,y0,by omega,rfl,rfl,hlt,rfl⟩
 case round =>
  obtain ⟨k,y,hk,rfl,rfl,hy,hs⟩:=hrel;have H:=Zz hs;clear hs e0;by_cases hlt:k < 8
  ·
   have hsh:shN (8 - (k + 1)) (sh y) = shN (8 - k) y:=by
    rw [<- shN_succ,show 8 - (k + 1) + 1 = 8 - k by omega]
   have HS:=Zz hsh;clear hsh;have hl:=sh_lt hy;by_cases hh:16777216 <= 2 * y
   ·
    have hb:Go.bits .and .i64 ((y:Int) * 2) 16777216 = 16777216:=by
     have e:=and_high (2 * y) (by omega);rw [if_pos hh] at e;rw [show ((y:Int) * 2) = ((2 * y:Nat):Int) by omega];exact e
    have hx:Go.bits .xor .i64 ((y:Int) * 2) 25578747 = (sh y:Nat):=by
     have e:=xor_i64 (2 * y) 25578747 (by omega) (by omega);rw [show ((y:Int) * 2) = ((2 * y:Nat):Int) by omega];unfold sh;rw [if_pos hh];exact e
    go_wp2;go_round
    case rel=>exact ⟨k + 1,sh y,by omega,by go_num,rfl,hl,HS.o.trans H.o⟩
    case measure=>simp [intOf];omega
   ·
    have hb:Go.bits .and .i64 ((y:Int) * 2) 16777216 = 0:=by
     have e:=and_high (2 * y) (by omega);rw [if_neg hh] at e;rw [show ((y:Int) * 2) = ((2 * y:Nat):Int) by omega];exact e
    have hv:(y:Int) * 2 = (sh y:Nat):=by unfold sh;rw [if_neg hh];omega
    have HV:=Zz hv;clear hv;go_wp2;go_round
    case rel=>exact ⟨k + 1,sh y,by omega,by go_num,by rw [HV.o],hl,HS.o.trans H.o⟩
    case measure=>simp [intOf];omega
  ·
   go_wp2;go_ret;obtain rfl:k = 8:=by omega
   exact ⟨ret_int (by rw [<- H.o];rw [shN_zero]),rfl⟩
theorem take_flat (ls:List (List UInt8)) (k:Nat) (h:k < ls.length):(ls.take (k + 1)).flatten = (ls.take k).flatten ++ ls[k]:=by
 rw [Zt h,List.flatten_append];simp
theorem u8_at {w:World} {ok:Nat -> Prop} {A:Option Addr} {l:List UInt8} (h:byteK.row w ok A l) (k:Nat) (hk:k < l.length):∃ ad,A = some ad/\w.cell? (ad.add k) = some (.int .u8 (l[k].toNat:Int)):=by
 obtain ⟨ad,cs,h1,h2,h3⟩:=Kd.row_at h hk;have e:cs = [.int .u8 (l[k].toNat:Int)]:=h2;subst e;exact ⟨ad,h1,by simpa [byteK,flat] using h3 0 _ rfl⟩
theorem sl_at {α:Type} {d:Kd α} {w:World} {ok:Nat -> Prop} {A:Option Addr} {l:List (List α)} (h:d.sl.row w ok A l) (k:Nat) (hk:k < l.length) :
  ∃ ad A' c',A = some ad/\w.cell? (ad.add k) = some (.slice A' l[k].length c')/\l[k].length <= c'/\(l[k].length <= 140737488355328/\c' <= maxLen)/\(A' = none -> c' = 0)/\d.row w ok A' l[k]:=by
 obtain ⟨ad,cs,h1,⟨A',c',rfl,h4,h5,h6,h7⟩,h3⟩:=Kd.row_at h hk;exact ⟨ad,A',c',h1,by simpa [Kd.sl] using h3 0 _ rfl,h4,h5,h6,h7⟩
theorem sum_calls (ls:List (List UInt8)) (A:Option Addr) (c:Nat) (ok:Nat -> Prop) (w:World) (hl:ls.length <= maxLen) (hr:byteK.sl.row w ok A ls) :
  Calls Tryz.prog 104 #[.slice A ls.length c] w fun e w'=>e = .returned (.int .i64 (crc ls.flatten:Nat))/\w = w':=by
 unfold maxLen at hl;have HR:=Zz hr;clear hr;go_enter func104,ntmps104;go_wp2;go_loop [3,10] (fun s i=>∃ k y:Nat,k <= ls.length/\i = .int .i64 k/\s = .int .i64 y/\y < 16777216/\Hid (y = crc (ls.take k).flatten)) (fun _ i=>ls.length - (intOf i).toNat)
 case atStart=>exact ⟨0,init,by omega,rfl,rfl,init_lt,Zz rfl⟩
 case round =>
  obtain ⟨k,y,hk,rfl,rfl,hy,HS⟩:=hrel;by_cases hlt:k < ls.length
  ·
   obtain ⟨ad,A',c',rfl,hcell,h1,h2,_,h4⟩:=sl_at HR.o k hlt;have HR':=Zz h4;have HT:=Zz (take_flat ls k hlt);clear h4;generalize hg:ls[k] = l at *;clear hg;obtain ⟨h2,h2'⟩:=h2;clear h2';go_wp2;go_loop [3,16] (fun s i=>∃ j z:Nat,j <= l.length/\i = .int .i64 j/\s = .int .i64 z/\z < 16777216/\Hid (z = sumFrom y (l.take j))) (fun _ i=>l.length - (intOf i).toNat)
   case atStart=>exact ⟨0,y,by omega,rfl,rfl,hy,Zz rfl⟩
   case round =>
    obtain ⟨j,z,hj,rfl,rfl,hz,HZ⟩:=hrel;by_cases hlj:j < l.length
    ·
     obtain ⟨ad',rfl,hc'⟩:=u8_at HR'.o j hlj;have hn:cstep z l[j] = sumFrom y (l.take (j + 1)):=by
      rw [Zt hlj,sumFrom_snoc,HZ.o]
     have HN:=Zz hn;clear hn;have hlt':=cstep_lt hz l[j];generalize hgj:l[j] = b at *;clear hgj;go_wp2_with (go_at_call 144;refine (one_calls z hz b _).mono ?_;rintro e w' ⟨rfl,rfl⟩)
     go_round
     case rel=>exact ⟨j + 1,cstep z b,by omega,by go_num,rfl,hlt',HN⟩
     case measure=>simp [intOf];omega
    ·
     go_wp2;go_round
     case rel =>
      have e:z = crc (ls.take (k + 1)).flatten:=by
       rw [HZ.o,HT.o,List.take_of_length_le (by omega),HS.o];unfold crc;rw [sumFrom_append]
      exact ⟨k + 1,z,by omega,by go_num,rfl,hz,Zz e⟩
     case measure=>simp [intOf];omega
  ·
   go_wp2;go_ret;obtain rfl:k = ls.length:=by omega
   exact ⟨ret_int (by rw [HS.o,List.take_of_length_le (lR _)]),rfl⟩
theorem ref_calls (l:List UInt8) (A:Option Addr) (c:Nat) (ok:Nat -> Prop) (w:World) (hl:l.length <= maxLen) (hr:byteK.row w ok A l) :
  Calls Tryz.prog 81 #[.slice A l.length c] w fun e w'=>e = .returned (.int .i64 (crc l:Nat))/\w = w':=by
 unfold maxLen at hl;have HR:=Zz hr;clear hr;go_enter func81,ntmps81;go_wp2;go_loop [3,4] (fun s i=>∃ k y:Nat,k <= l.length/\i = .int .i64 k/\s = .int .i64 y/\y < 16777216/\Hid (y = crc (l.take k))) (fun _ i=>l.length - (intOf i).toNat)
 case atStart=>exact ⟨0,init,by omega,rfl,rfl,init_lt,Zz rfl⟩
 case round =>
  obtain ⟨k,y,hk,rfl,rfl,hy,HS⟩:=hrel;by_cases hlt:k < l.length
  ·
   obtain ⟨ad,rfl,hcell⟩:=u8_at HR.o k hlt;have HN:Hid (cstep y l[k] = crc (l.take (k + 1))):=by
    have:crc (l.take (k + 1)) = cstep (crc (l.take k)) l[k]:=by unfold crc;rw [Zt hlt,sumFrom_snoc]
    exact Zz (by rw [this,HS.o])
   generalize hg:l[k] = b at *;clear hg;have hb:=b.toNat_lt;have e0:Go.bits .xor .i64 (y:Int) ((b.toNat:Int) * 65536) = ((y ^^^ b.toNat * 65536:Nat):Int):=by
    have e:=xor_i64 y (b.toNat * 65536) (by omega) (by omega);rw [Int.natCast_mul] at e;exact e
   have hl0:=in_lt hy b;have HC:=Zz (cstep_eq y b);have hl1:=cstep_lt hy b;generalize y ^^^ b.toNat * 65536 = y0 at *;go_wp2;clear e0;go_loop [3,5] (fun s i=>∃ j z:Nat,j <= 8/\i = .int .i64 j/\s = .int .i64 z/\z < 16777216/\Hid (shN (8 - j) z = shN 8 y0)) (fun _ i=>8 - (intOf i).toNat)
   case atStart=>exact ⟨0,y0,by omega,rfl,rfl,hl0,Zz rfl⟩
   case round =>
    obtain ⟨j,z,hj,rfl,rfl,hz,HZ⟩:=hrel;by_cases hlj:j < 8
    ·
     have HS:Hid (shN (8 - (j + 1)) (sh z) = shN (8 - j) z):=by
      have:shN (8 - (j + 1)) (sh z) = shN (8 - j) z:=by rw [<- shN_succ,show 8 - (j + 1) + 1 = 8 - j by omega]
      exact Zz this
     have hl2:=sh_lt hz;by_cases hh:16777216 <= 2 * z
     ·
      have hx:Go.bits .xor .i64 ((z:Int) * 2) 25578747 = (sh z:Nat):=by
       have e:=xor_i64 (2 * z) 25578747 (by omega) (by omega);rw [show ((z:Int) * 2) = ((2 * z:Nat):Int) by omega];unfold sh;rw [if_pos hh];exact e
      have hq:decide (16777216 <= (z:Int) * 2) = true:=by simp;omega
      go_wp2;go_round
      case rel=>exact ⟨j + 1,sh z,by omega,by go_num,rfl,hl2,Zz (HS.o.trans HZ.o)⟩
      case measure=>simp [intOf];omega
     ·
      have HV:Hid ((z:Int) * 2 = (sh z:Nat)):=by
       have:(z:Int) * 2 = (sh z:Nat):=by unfold sh;rw [if_neg hh];omega
       exact Zz this
      have hq:decide (16777216 <= (z:Int) * 2) = false:=by simp;omega
      go_wp2;go_round
      case rel=>exact ⟨j + 1,sh z,by omega,by go_num,by rw [HV.o],hl2,Zz (HS.o.trans HZ.o)⟩
      case measure=>simp [intOf];omega
    ·
     go_wp2;go_round
     case rel =>
      obtain rfl:j = 8:=by omega
      have e:z = crc (l.take (k + 1)):=by
       rw [<- HN.o,HC.o,<- HZ.o,shN_zero]
      exact ⟨k + 1,z,by omega,by go_num,rfl,hz,Zz e⟩
     case measure=>simp [intOf];omega
  ·
   go_wp2;go_ret;obtain rfl:k = l.length:=by omega
   exact ⟨ret_int (by rw [HS.o,List.take_of_length_le (lR _)]),rfl⟩
end CrcWalk
namespace CrcLaws
open Go.RowKit CrcPure B CrcWalk
theorem info_u8:(Tryz.prog.info? 5).map (fun i=>(i.zero,i.size,i.bytes)) = some (some (.int .u8 0),1,1):=by kernel_rfl
theorem any_u8:∀ (w:World) (ok ok':Nat -> Prop) (x:UInt8) (cs:List Value),byteK.M w ok x cs -> byteK.M w ok' x cs:=fun _ _ _ _ _ h=>h
theorem one_row {W:World} {g:Nat} {v:Value} {l:List UInt8} {ok:Nat -> Prop} (hg:W.heap.size = g) (h:byteK.sl.M W ok l [v]) :
  byteK.sl.row (W.alloc (.cells #[v] 55)) (fun _=>True) (some ⟨g,0,none⟩) [l]:=
 Kd.row_one (C:=#[v]) (Kd.bi_new hg) trivial (Kd.M_below (byteK.sl.mono (fun _ _ _=>trivial) h) ((bR _ _).alloc (lR _) _))
theorem three_cells (n:Nat) (h:n < 16777216):(#[Value.int .u8 ((n:Int) / 65536),.int .u8 ((n:Int) / 256 % 256),.int .u8 ((n:Int) % 256)]:Array Value).toList = (three n).map fun c=>Value.int .u8 (c.toNat:Int):=by
 unfold three;simp only [List.map_cons,List.map_nil,UInt8.toNat_ofNat'];rw [show (((n / 65536 % 2 ^ 8:Nat)):Int) = (n:Int) / 65536 by omega,show (((n / 256 % 2 ^ 8:Nat)):Int) = (n:Int) / 256 % 256 by omega,show (((n % 2 ^ 8:Nat)):Int) = (n:Int) % 256 by omega]
end CrcLaws
namespace BoxWalk
open Go.RowKit CrcPure BoxPure B CrcWalk CrcLaws
abbrev T:Nat -> Prop:=fun _=>True
def NewBytes (l:List UInt8) (w:World) (e:Ending) (w':World):Prop:=
 ∃ v,e = .returned v/\byteK.own 5 w' w.heap.size T v l/\Below w.heap.size w w'
theorem three_own (n:Nat) (h:n < 16777216) (w:World) :
  byteK.own 5 (w.alloc (.cells #[.int .u8 ((n:Int) / 65536),.int .u8 ((n:Int) / 256 % 256),.int .u8 ((n:Int) % 256)] 5)) w.heap.size T (.slice (some ⟨w.heap.size,0,none⟩) 3 3) (three n):=by
 have e:=three_cells n h;have hh:=Kd.heap_new w (.cells #[.int .u8 ((n:Int) / 65536),.int .u8 ((n:Int) / 256 % 256),.int .u8 ((n:Int) % 256)] 5);exact Kd.own_block (cells:=[.int .u8 ((n:Int) / 65536),.int .u8 ((n:Int) / 256 % 256),.int .u8 ((n:Int) % 256)]) (xs:=three n) (lR _) hh rfl (by simp [three]) (fun i x hx=>by
  have:=u8_lit _ i x hx;rw [<- e] at this;exact this)
theorem laid_calls (n:Nat) (hn:n < 16777216) (w:World) :
  Calls Tryz.prog 103 #[.int .i64 n] w (NewBytes (three n) w):=by
 go_enter func103,ntmps103;go_wp2;go_ret;exact ⟨_,rfl,three_own n hn w,bel_alloc (bR _ _) _⟩
theorem refthree_calls (n:Nat) (hn:n < 16777216) (w:World) :
  Calls Tryz.prog 80 #[.int .i64 n] w (NewBytes (three n) w):=by
 go_enter func80,ntmps80;go_wp2;go_ret;exact ⟨_,rfl,three_own n hn w,bel_alloc (bR _ _) _⟩
theorem or_bytes (a b c:UInt8):Go.bits .or .i64 (Go.bits .or .i64 ((a.toNat:Int) * 65536) ((b.toNat:Int) * 256)) (c.toNat:Int) = ((a.toNat * 65536 + b.toNat * 256 + c.toNat:Nat):Int):=by
 have ha:=a.toNat_lt;have hb:=b.toNat_lt;have hc:=c.toNat_lt;have hk:∀ n:Int,0 <= n -> n < 2 ^ 63 -> IntKind.i64.wrap n = n:=fun n h0 h1=>by rw [Zw];omega
 rw [bits_join .i64 63 (by decide) hk 16 ((a.toNat:Int) * 65536) ((b.toNat:Int) * 256) (by omega) (by omega) (by omega) (by omega) (by omega) (by omega)];rw [bits_join .i64 63 (by decide) hk 8 ((a.toNat:Int) * 65536 + (b.toNat:Int) * 256) (c.toNat:Int) (by omega) (by omega) (by omega) (by omega) (by omega) (by omega)];omega
theorem getD_at (l:List UInt8) (i:Nat) (h:i < l.length):l.getD i 0 = l[i]:=by rw [List.getD_eq_getElem?_getD,Zg h];rfl
theorem u8_plain {w:World} {ok:Nat -> Prop} {A:Option Addr} {l:List UInt8} (h:byteK.row w ok A l) (hp:0 < l.length) :
  ∃ b off,A = some ⟨b,off,none⟩/\∀ i (hi:i < l.length),w.cell? ⟨b,off + i,none⟩ = some (.int .u8 (l[i].toNat:Int)):=by
 obtain ⟨b,off,h1,_,h2⟩:=Kd.row_plain rfl h hp;refine ⟨b,off,h1,fun i hi=>?_⟩;obtain ⟨u,hu,hM⟩:=h2 i hi;obtain rfl:u = .int .u8 (l[i].toNat:Int):=by simpa [byteK,flat] using hM
 exact hu
theorem number_calls (l:List UInt8) (h3:3 <= l.length) (v:Value) (ok:Nat -> Prop) (w:World) (m:byteK.sl.M w ok l [v]) :
  Calls Tryz.prog 109 #[v] w fun e w'=>e = .returned (.int .i64 (num l:Nat))/\∃ n,w' = w.drewN n:=by
 obtain ⟨A,c,hv,h1,h2,_,hr⟩:=m;simp at hv;subst hv;obtain ⟨b,off,rfl,hcell⟩:=u8_plain hr (by omega);have c0:=hcell 0 (by omega);have c1:=hcell 1 (by omega);have c2:=hcell 2 (by omega);rw [Nat.add_zero] at c0;clear hcell;have HN:Hid (num l = l[0].toNat * 65536 + l[1].toNat * 256 + l[2].toNat):=by
  have:num l = l[0].toNat * 65536 + l[1].toNat * 256 + l[2].toNat:=by
   unfold num;rw [getD_at l 0 (by omega),getD_at l 1 (by omega),getD_at l 2 (by omega)]
  exact Zz this
 have HE:=Zz (or_bytes l[0] l[1] l[2]);have b0:=l[0].toNat_lt;have b1:=l[1].toNat_lt;have b2:=l[2].toNat_lt;generalize l[0] = x at *;generalize l[1] = y at *;generalize l[2] = z at *;have i0:(0:Int) < (l.length:Int):=by omega
 have i1:(1:Int) < (l.length:Int):=by omega
 have i2:(2:Int) < (l.length:Int):=by omega
 have j0:0 < l.length:=by omega
 have w1:IntKind.i64.wrap ((x.toNat:Int) * 65536) = (x.toNat:Int) * 65536:=by rw [Zw];omega
 have w2:IntKind.i64.wrap ((y.toNat:Int) * 256) = (y.toNat:Int) * 256:=by rw [Zw];omega
 clear hr h1 h2;go_enter func109,ntmps109;go_wp2;go_quiet (fail);go_wp2;go_ret;exact ⟨ret_int (by rw [HN.o,<- HE.o]),_,rfl⟩
theorem clone_calls (l:List UInt8) (v:Value) (w:World) (m:byteK.sl.M w T l [v]) :
  Calls Tryz.prog 110 #[v] w (NewBytes l w):=by
 obtain ⟨A,c,hv,h1,h2,h3,hr⟩:=m;simp at hv;subst hv;cases A with
 | none =>
  have hc:=h3 rfl;have hl:l = []:=Zn (by omega);subst hl;subst hc;have he:=fun (w:World) (a:Option Addr) (n c:Nat)=>Lib.run_eql_slice_nil (P:=Tryz.prog) w 55 5 a n c 0 0 underlying55
  go_enter func110,ntmps110;go_wp2;go_ret;exact ⟨_,rfl,Kd.own_nil _ _ _ _ _,bR _ _⟩
 | some ad =>
  have he:=fun (w:World) (a:Option Addr) (n c:Nat)=>Lib.run_eql_slice_nil (P:=Tryz.prog) w 55 5 a n c 0 0 underlying55
  have b0:Below w.heap.size w (w.alloc (.cells #[] 5)):=bel_alloc (bR _ _) _;have HO0:Hid (byteK.own 5 (w.alloc (.cells #[] 5)) w.heap.size T (.slice (some ⟨w.heap.size,0,none⟩) 0 0) []):=
   Zz (Kd.own_block (cells:=[]) (xs:=[]) (lR _) (Kd.heap_new _ _) rfl (by simp) (fun i x h=>by simp at h))
  have HR0:=Zz (Kd.M_below (Kd.u8_sl h1 h2 h3 hr) b0);clear hr;go_enter func110,ntmps110;go_wp2_with (at_builtin;refine Kd.own_app byteK w.heap.size rfl (.tmp 5) (.tmp 6) 55 5 (.int .u8 0) 1 rfl underlying55 info_u8 rfl (by decide) _ [] l (some ad) c T rfl rfl HO0.o (.inr ⟨HR0.o,any_u8⟩) b0 (by simp) (by simp;omega) ?_;intro v1 w1 ho1 hb1 hg1 hv1;clear hg1 hv1;rw [Zf] at ho1;have HO1:=Zz ho1;clear ho1)
  go_ret;exact ⟨_,rfl,HO1.o,hb1⟩
theorem mkS_beq (a b:List UInt8):((mkS a).toList == (mkS b).toList) = (a == b):=by
 rw [show (mkS a).toList = a from ByteArray.toList_mk a,show (mkS b).toList = b from ByteArray.toList_mk b]
theorem equal_calls (a b:List UInt8) (va vb:Value) (ok ok':Nat -> Prop) (w:World) (ma:byteK.sl.M w ok a [va]) (mb:byteK.sl.M w ok' b [vb]) :
  Calls Tryz.prog 72 #[va,vb] w fun e w'=>e = .returned (.bool (a == b))/\w = w':=by
 obtain ⟨A,c,hv,_,_,_,hr⟩:=ma;simp at hv;subst hv;obtain ⟨A',c',hv,_,_,_,hr'⟩:=mb;simp at hv;subst hv;have h1:=conv_string (P:=Tryz.prog) (w:=w) (c:=c) underlying55 underlying5 underlying9 hr;have h2:=conv_string (P:=Tryz.prog) (w:=w) (c:=c') underlying55 underlying5 underlying9 hr';have he:=mkS_beq a b;clear hr hr';generalize mkS a = sa at *;generalize mkS b = sb at *;generalize (a == b) = r at *;go_enter func72,ntmps72;go_wp2;go_ret;exact ⟨rfl,rfl⟩
end BoxWalk
namespace BoxPack
open Go.RowKit CrcPure BoxPure B CrcWalk CrcLaws BoxWalk
def secK:Kd Sec:=pairK intK byteK.sl
theorem sec_cells {w:World} {ok:Nat -> Prop} {x:Sec} {cs:List Value} (h:secK.M w ok x cs):∃ A c,cs = [.int .i64 x.1,.slice A x.2.length c]/\(-9223372036854775808 <= x.1/\x.1 <= 9223372036854775807)/\byteK.sl.M w ok x.2 [.slice A x.2.length c]:=by
 obtain ⟨c1,c2,rfl,⟨rfl,h1⟩,⟨A,c,rfl,h2⟩⟩:=h;exact ⟨A,c,rfl,h1,A,c,rfl,h2⟩
theorem sec_at {w:World} {ok:Nat -> Prop} {A:Option Addr} {l:List Sec} (h:secK.row w ok A l) (k:Nat) (hk:k < l.length) :
  ∃ b off A' c',A = some ⟨b,off,none⟩/\b < w.heap.size/\w.cell? ⟨b,off + k * 2,none⟩ = some (.int .i64 l[k].1)/\w.cell? ⟨b,off + k * 2 + 1,none⟩ = some (.slice A' l[k].2.length c') /\
   (-9223372036854775808 <= l[k].1/\l[k].1 <= 9223372036854775807)/\byteK.sl.M w ok l[k].2 [.slice A' l[k].2.length c']:=by
 obtain ⟨b,off,h1,_,hb,h2⟩:=Kd.row_addr h (by omega);obtain ⟨cs,hM,hc⟩:=h2 k hk;obtain ⟨A',c',rfl,h3,h4⟩:=sec_cells hM;exact ⟨b,off,A',c',h1,hb,hc 0 _ rfl,hc 1 _ rfl,h3,h4⟩
structure PSt (w W:World) (v:Value) (b:List UInt8) (g:Nat) (id:Int) (body:List UInt8) (u:Value):Prop where
 own:byteK.own 5 W w.heap.size T v b
 bel:Below w.heap.size w W
 c0:W.cell? ⟨g,0,none⟩ = some (.int .i64 id)
 c1:W.cell? ⟨g,1,none⟩ = some u
 ne:some g ≠ v.ownBlock
 body:byteK.sl.M W (fun k=>k < w.heap.size) body [u]
namespace PSt
variable {w W W' : World} {v v1 : Value} {b ys body : List UInt8} {g : Nat} {id : Int} {u : Value}
theorem call (h:PSt w W v b g id body u) (hb:Below W.heap.size W W'):PSt w W' v b g id body u:=
 ⟨Kd.own_below h.own hb,bel_step h.bel hb,cell_same h.c0 (hb.block _ (cell_lt h.c0)),cell_same h.c1 (hb.block _ (cell_lt h.c1)),h.ne,Kd.M_below h.body hb⟩
theorem app (h:PSt w W v b g id body u) (h1:byteK.own 5 W' w.heap.size T v1 (b ++ ys)) (h2:Below w.heap.size w W') (h3:W.grownBy W' v.ownBlock) (h4:v1.ownBlock = v.ownBlock \/ ∃ k,v1.ownBlock = some k/\W.heap.size <= k):PSt w W' v1 (b ++ ys) g id body u:=
 ⟨h1,h2,h3.cell h.c0 h.ne,h3.cell h.c1 h.ne,by
  rcases h4 with h4 | ⟨k,h4,h5⟩
  ·
   rw [h4];exact h.ne
  ·
   rw [h4]
   intro e
   have:=cell_lt h.c0
   simp at e
   simp at this
   omega,by
  refine byteK.sl.move (fun k hk hlt=>h3.block k hlt (fun e=>?_)) h.body
  have:=(Kd.own_lt h.own k e.symm).1
  omega⟩
end PSt
def PackPost (l:List Sec) (w:World) (e:Ending) (w':World):Prop:=
 Below w.heap.size w w'/\((May l/\∃ v,e = .returned (.tuple #[v,.int .i64 0])/\byteK.own 5 w' w.heap.size T v (file l)) \/ (¬ May l/\e = .returned (.tuple #[.slice none 0 0,.int .i64 1])))
theorem pack_calls (l:List Sec) (v:Value) (w:World) (m:secK.sl.M w T l [v]) :
  Calls Tryz.prog 60 #[v] w (PackPost l w):=by
 obtain ⟨A,c,hv,h1,h2,h3,hr0⟩:=m;simp at hv;subst hv;by_cases hlen:8 < l.length
 ·
  have q1:decide ((8:Int) < (l.length:Int)) = true:=dT (by omega);go_enter func60,ntmps60;go_wp2;go_ret2;exact ⟨bR _ _,.inr ⟨fun h=>by have:=h.1;omega,rfl⟩⟩
 ·
  have q1:decide ((8:Int) < (l.length:Int)) = false:=dF (by omega);have HR:=Zz (Kd.row_mono (ok':=fun k=>k < w.heap.size) (fun k _ hk=>hk) hr0);clear hr0;have kc:=fun (w:World) (C:Array Value) (n c:Nat)=>Lib.run_convert_bytes_const (P:=Tryz.prog) w 55 5 C n c underlying55 underlying5
  have HL:Hid ((#[.int .u8 (l.length:Int)]:Array Value).toList = [UInt8.ofNat l.length].map fun c=>Value.int .u8 (c.toNat:Int)):=by
   have:(#[.int .u8 (l.length:Int)]:Array Value).toList = [UInt8.ofNat l.length].map fun c=>Value.int .u8 (c.toNat:Int):=by
    simp only [List.map_cons,List.map_nil,UInt8.toNat_ofNat'];rw [show (((l.length % 2 ^ 8:Nat)):Int) = (l.length:Int) by omega]
   exact Zz this
  go_enter func60,ntmps60;go_wp2_with (at_builtin;go_loud (refine Kd.own_grow byteK rfl (.tmp 15) (.tmp 19) 55 5 (.int .u8 0) 1 rfl underlying55 info_u8 rfl (by decide) title [UInt8.ofNat l.length] (some ⟨w.heap.size,0,none⟩) (some ⟨w.heap.size + 1,0,none⟩) 5 1 T rfl rfl ?hx ?hy (by simp [title]) (by simp) (by simp [title]) ?_);(case hx=>exact Kd.u8_sl (l:=title) (by simp [title]) (by simp [title,maxLen]) (fun h=>by cases h) (Kd.row_u8 (by repeat (first | exact Kd.bi_new (by simp) | refine Kd.bi_old ?_)) trivial rfl));(case hy=>exact Kd.u8_sl (l:=[UInt8.ofNat l.length]) (by simp) (by simp [maxLen]) (fun h=>by cases h) (Kd.row_u8 (by repeat (first | exact Kd.bi_new (by simp) | refine Kd.bi_old ?_)) trivial HL.o));intro v1 w1 ho1 hb1;have HO1:=Zz ho1;have HB1:=Zz hb1;clear ho1 hb1)
  have hb0:Below w.heap.size w w1:=bel_step (bel_alloc (bel_alloc (bR _ _) _) _) HB1.o;have HO2:Hid (byteK.own 5 w1 w.heap.size T v1 (title ++ [UInt8.ofNat l.length] ++ heads (l.take 0))):=by
   have:=Kd.own_lower (base':=w.heap.size) (by simp;omega) HO1.o;exact Zz (by simpa [heads] using this)
  have HB2:=Zz hb0;clear HO1 HB1 hb0 kc;go_loopw [4,5,6,28] (fun vb vs vl vi wr=>∃ (k:Nat) (S L:Int),k <= l.length/\vi = .int .i64 k/\vs = .int .i64 S/\vl = .int .i64 L/\Hid (S = ((9 + 7 * l.length + total (l.take k):Nat):Int))/\0 <= S/\S <= 100000/\Hid (L = lastID 0 (l.take k))/\0 <= L /\
   Hid (rising 0 (l.take k) = true)/\Hid (byteK.own 5 wr w.heap.size T vb (title ++ [UInt8.ofNat l.length] ++ heads (l.take k)))/\Hid (Below w.heap.size w wr)) (fun _ _ _ vi _=>l.length - (intOf vi).toNat)
  case atStart =>
   exact ⟨0,6 + 7 * (l.length:Int) + 3,0,by omega,rfl,rfl,rfl,Zz (by simp [total];omega),by omega,by omega,Zz rfl,by omega,Zz rfl,HO2,HB2⟩
  case round =>
   clear HO2 HB2;obtain ⟨k,S,L,hk,rfl,rfl,rfl,HS,hS0,hS1,HLL,hL0,HRi,HO,HB⟩:=hrel;by_cases hlt:k < l.length
   ·
    obtain ⟨b,off,A',c',rfl,hbl,hc0,hc1,hid,hbody⟩:=sec_at (Kd.row_old HR.o HB.o) k hlt;have HT1:=Zz (total_snoc l k hlt);have HT2:=Zz (heads_snoc l k hlt);have HT3:=Zz (rising_snoc' l k hlt 0);have HT4:=Zz (lastID_snoc' l k hlt 0);have HBY:=Zz hbody;clear hbody;generalize hx:l[k] = x at *;clear hx;obtain ⟨id,body⟩:=x;dsimp only at *;have hb47:body.length <= 140737488355328:=by
     obtain ⟨_,_,_,_,h,_⟩:=HBY.o;exact h.1
    by_cases hbad:id <= L \/ 255 < id \/ 100000 < S + body.length
    ·
     have HN:Hid (¬ May l):=by
      refine Zz (fun hM=>?_);have r1:=rising_take l (k + 1) 0 hM.2.1;have r2:=total_take l (k + 1);have r3:=hM.2.2;rw [HT3.o,Bool.and_eq_true,Bool.and_eq_true,decide_eq_true_eq,decide_eq_true_eq] at r1;rw [HT1.o] at r2;rw [HLL.o] at hbad;rw [HS.o] at hbad;omega
     by_cases c1:id <= L
     ·
      have d1:decide (id <= L) = true:=dT c1;go_wp2;go_ret2;exact ⟨bel_alloc HB.o _,.inr ⟨HN.o,rfl⟩⟩
     ·
      have d1:decide (id <= L) = false:=dF c1;by_cases c2:255 < id
      ·
       have d2:decide (255 < id) = true:=dT c2;go_wp2;go_ret2;exact ⟨bel_alloc HB.o _,.inr ⟨HN.o,rfl⟩⟩
      ·
       have d2:decide (255 < id) = false:=dF c2;have d3:decide (100000 < S + (body.length:Int)) = true:=dT (by omega);go_wp2;go_ret2;exact ⟨bel_alloc HB.o _,.inr ⟨HN.o,rfl⟩⟩
    ·
     have d1:decide (id <= L) = false:=dF (by omega);have d2:decide (255 < id) = false:=dF (by omega);have d3:decide (100000 < S + (body.length:Int)) = false:=dF (by omega);have i0:0 <= id:=by omega
     have i1:id <= 255:=by omega
     have hbl1:body.length <= 100000:=by omega
     have i3:S + body.length <= 100000:=by omega
     have i4:L < id:=by omega
     have HID:Hid (id = ((idB id).toNat:Int)):=Zz (idB_val i0 i1).symm;clear hbad;obtain ⟨Ab,cb,rfl,_,_⟩:=Kd.own_slice HO.o;have P0:PSt w (wr.alloc (.cells #[.int .i64 id,.slice A' body.length c'] 82)) (.slice Ab (title ++ [UInt8.ofNat l.length] ++ heads (l.take k)).length cb) (title ++ [UInt8.ofNat l.length] ++ heads (l.take k)) wr.heap.size id body (.slice A' body.length c'):=
      ⟨Kd.own_alloc HO.o _,bel_alloc HB.o _,by simp,by simp,fun e=>by have:=(Kd.own_lt HO.o _ e.symm).2;omega,Kd.M_below HBY.o (bel_alloc (bR _ _) _)⟩
     have HP0:=Zz P0;have hlen0:(title ++ [UInt8.ofNat l.length] ++ heads (l.take k)).length <= 62:=by
      rw [Zl,heads_length];simp [title];omega
     have HT2':Hid (title ++ [UInt8.ofNat l.length] ++ heads (l.take (k + 1)) = ((title ++ [UInt8.ofNat l.length] ++ heads (l.take k)) ++ [idB id]) ++ three body.length ++ three (crc body)):=
      Zz (by rw [HT2.o];simp [head1])
     clear HT2;generalize title ++ [UInt8.ofNat l.length] ++ heads (l.take k) = pre at *;go_upto_region 14 with (at_builtin;go_loud (refine Kd.own_app1 byteK w.heap.size rfl (.tmp 52) (.tmp 56) 55 5 (.int .u8 0) 1 rfl underlying55 info_u8 rfl (by decide) _ pre (idB id) [.int .u8 id] T rfl (by simp [Act.eval,Act.put]) HP0.o.own (by exact congrArg (fun z:Int=>[Value.int .u8 z]) HID.o) HP0.o.bel HP0.o.bel.size (by omega) ?_);intro v1 w1 ho1 hb1 hg1 hv1;have P1:=Zz (HP0.o.app ho1 hb1 hg1 hv1);clear ho1 hb1 hg1 hv1)
     have hp1:(pre ++ [idB id]).length <= 63:=by simp;omega
     generalize pre ++ [idB id] = p1 at *;have hc0:=P1.o.c0;have hc1:=P1.o.c1;go_wp2_with fail;refine (laid_calls body.length (by omega) _).mono ?_;rintro e w2 ⟨v2,rfl,ho2,hb2⟩;have P2:=Zz (P1.o.call hb2);have HO2:=Zz ho2;have ht2:(three body.length).length <= 3:=lR _;generalize three body.length = t2 at *;obtain ⟨A2,c2,rfl,_,_⟩:=Kd.own_slice ho2;have HM2:=Zz (Kd.own_sl (ok':=T) HO2.o (fun _ _=>trivial) (fun _ _=>trivial));clear ho2 hb2 hc0 hc1;obtain ⟨Ax,cx,rfl,_,_⟩:=Kd.own_slice P2.o.own;go_upto_region 15 with (at_builtin;go_loud (refine Kd.own_app byteK w.heap.size rfl (.tmp 58) (.tmp 62) 55 5 (.int .u8 0) 1 rfl underlying55 info_u8 rfl (by decide) (.slice Ax p1.length cx) p1 t2 A2 c2 T (by simp [Act.eval,Act.put]) (by simp [Act.eval,Act.put]) P2.o.own (.inr ⟨HM2.o,any_u8⟩) P2.o.bel P2.o.bel.size (by omega) ?_);intro v3 w3 ho3 hb3 hg3 hv3;go_loud (have P3:=Zz (P2.o.app ho3 hb3 hg3 (hv3.imp (fun e=>e) (fun e=>⟨_,e,lR _⟩))));clear ho3 hb3 hg3 hv3)
     have hp2:(p1 ++ t2).length <= 66:=by simp;omega
     generalize p1 ++ t2 = p2 at *;have hc1:=P3.o.c1;have HS3:=Zz (Kd.M_below P3.o.body (bel_alloc (bR _ _) (.cells #[.slice A' body.length c'] 55)));go_wp2_with fail;refine (sum_calls [body] (some ⟨w3.heap.size,0,none⟩) _ T _ (by simp [maxLen]) (one_row rfl P3.o.body)).mono ?_;rintro e w4 ⟨rfl,rfl⟩;rw [show [body].flatten = body by simp];have P4:=Zz (P3.o.call (bel_alloc (bR _ _) (.cells #[.slice A' body.length c'] 55)));have hcr:=crc_lt body;generalize crc body = cr at *;clear hc1;go_wp2_with fail;refine (laid_calls cr hcr _).mono ?_;rintro e w5 ⟨v5,rfl,ho5,hb5⟩;have P5:=Zz (P4.o.call hb5);have HO5:=Zz ho5;have ht5:(three cr).length <= 3:=lR _;generalize three cr = t5 at *;obtain ⟨A5,c5,rfl,_,_⟩:=Kd.own_slice ho5;have HM5:=Zz (Kd.own_sl (ok':=T) HO5.o (fun _ _=>trivial) (fun _ _=>trivial));clear ho5 hb5;obtain ⟨Ay,cy,rfl,_,_⟩:=Kd.own_slice P5.o.own;go_wp2_with (at_builtin;go_loud (refine Kd.own_app byteK w.heap.size rfl (.tmp 64) (.tmp 69) 55 5 (.int .u8 0) 1 rfl underlying55 info_u8 rfl (by decide) (.slice Ay p2.length cy) p2 t5 A5 c5 T (by simp [Act.eval,Act.put]) (by simp [Act.eval,Act.put]) P5.o.own (.inr ⟨HM5.o,any_u8⟩) P5.o.bel P5.o.bel.size (by omega) ?_);intro v6 w6 ho6 hb6 hg6 hv6;go_loud (have P6:=Zz (P5.o.app ho6 hb6 hg6 (hv6.imp (fun e=>e) (fun e=>⟨_,e,lR _⟩))));clear ho6 hb6 hg6 hv6)
     go_roundw
     case rel=>exact ⟨k + 1,S + body.length,id,by omega,by go_num,rfl,rfl,Zz (by rw [HT1.o,HS.o];omega),by omega,by omega,Zz HT4.o.symm,i0,Zz (by rw [HT3.o,HRi.o,<- HLL.o];simp;omega),Zz (by rw [HT2'.o];exact P6.o.own),Zz P6.o.bel⟩
     case measure=>simp [intOf];omega
   ·
    obtain rfl:k = l.length:=by omega
    rw [List.take_of_length_le (lR _)] at *;have hM:May l:=⟨by omega,HRi.o,by have:=HS.o;omega⟩;have HM:=Zz hM;clear hM;have HH:Hid (title ++ [UInt8.ofNat l.length] ++ heads l = header l):=Zz (by simp [header]);rw [HH.o] at HO;have hhl:(header l).length <= 62:=by rw [header_length];omega
    have HF:Hid (header l ++ three (crc (header l)) ++ bodies l = file l):=Zz rfl;generalize header l = hd at *;clear HH HS HLL HRi;obtain ⟨Ab,cb,rfl,_,_⟩:=Kd.own_slice HO.o;have HS0:=Zz (Kd.own_sl (ok':=T) HO.o (fun _ _=>trivial) (fun _ _=>trivial));go_wp2_with fail;refine (sum_calls [hd] (some ⟨wr.heap.size,0,none⟩) _ T _ (by simp [maxLen]) (one_row rfl HS0.o)).mono ?_;rintro e w4 ⟨rfl,rfl⟩;rw [show [hd].flatten = hd by simp];have HO4:=Zz (Kd.own_alloc HO.o (.cells #[.slice Ab hd.length cb] 55));have HB4:=Zz (bel_alloc HB.o (.cells #[.slice Ab hd.length cb] 55));have hcr:=crc_lt hd;generalize crc hd = cr at *;generalize wr.alloc (.cells #[.slice Ab hd.length cb] 55) = w4 at *;go_wp2_with fail;refine (laid_calls cr hcr _).mono ?_;rintro e w5 ⟨v5,rfl,ho5,hb5⟩;have HO5:=Zz ho5;have HP5:=Zz (Kd.own_below HO4.o hb5);have HB5:=Zz (bel_step HB4.o hb5);have ht5:(three cr).length <= 3:=lR _;generalize three cr = t5 at *;obtain ⟨A5,c5,rfl,_,_⟩:=Kd.own_slice ho5;have HM5:=Zz (Kd.own_sl (ok':=T) HO5.o (fun _ _=>trivial) (fun _ _=>trivial));clear ho5 hb5;go_wp2_with (at_builtin;go_loud (refine Kd.own_app byteK w.heap.size rfl (.tmp 72) (.tmp 76) 55 5 (.int .u8 0) 1 rfl underlying55 info_u8 rfl (by decide) (.slice Ab hd.length cb) hd t5 A5 c5 T (by simp [Act.eval,Act.put]) (by simp [Act.eval,Act.put]) HP5.o (.inr ⟨HM5.o,any_u8⟩) HB5.o HB5.o.size (by omega) ?_);intro v6 w6 ho6 hb6 hg6 hv6;have HO6:=Zz ho6;have HB6:=Zz hb6;clear ho6 hb6 hg6 hv6)
    have hp6:(hd ++ t5).length <= 65:=by simp;omega
    generalize hd ++ t5 = p6 at *;have ht:=HM.o.2.2;go_loopw [4,80] (fun vb vi wq=>∃ k:Nat,k <= l.length/\vi = .int .i64 k/\Hid (byteK.own 5 wq w.heap.size T vb (p6 ++ bodies (l.take k)))/\Hid (Below w.heap.size w wq)) (fun _ vi _=>l.length - (intOf vi).toNat)
    case atStart=>exact ⟨0,by omega,rfl,Zz (by simpa [bodies] using HO6.o),HB6⟩
    case round =>
     obtain ⟨k,hk',rfl,HOq,HBq⟩:=hrel;by_cases hlt':k < l.length
     ·
      obtain ⟨b,off,A',c',rfl,hbl,hc0,hc1,hid,hbody⟩:=sec_at (Kd.row_old HR.o HBq.o) k hlt';have HT2:=Zz (bodies_snoc l k hlt');have hT3:(bodies (l.take k)).length + l[k].2.length <= 100000:=by
       have e1:=total_snoc l k hlt';have e2:=total_take l (k + 1);rw [bodies_length];omega
      have HBY:=Zz (Kd.M_below hbody (bel_alloc (bR _ _) (.cells #[.int .i64 l[k].1,.slice A' l[k].2.length c'] 82)));clear hbody;have hpq:(p6 ++ bodies (l.take k)).length = p6.length + (bodies (l.take k)).length:=by simp
      have hpq':(p6 ++ bodies (l.take k)).length + l[k].2.length <= 100065:=by omega
      clear hpq hT3;generalize hx:l[k] = x at *;clear hx;obtain ⟨id,body⟩:=x;dsimp only at *;have HT3:Hid (p6 ++ bodies (l.take (k + 1)) = (p6 ++ bodies (l.take k)) ++ body):=Zz (by rw [HT2.o,Za]);generalize p6 ++ bodies (l.take k) = pq at *;obtain ⟨Aq,cq,rfl,_,_⟩:=Kd.own_slice HOq.o;have HOr:=Zz (Kd.own_alloc HOq.o (.cells #[.int .i64 id,.slice A' body.length c'] 82));have HBr:=Zz (bel_alloc HBq.o (.cells #[.int .i64 id,.slice A' body.length c'] 82));go_wp2_with (at_builtin;go_loud (refine Kd.own_app byteK w.heap.size rfl (.tmp 84) (.tmp 86) 55 5 (.int .u8 0) 1 rfl underlying55 info_u8 rfl (by decide) (.slice Aq pq.length cq) pq body A' c' T (by simp [Act.eval,Act.put]) (by simp [Act.eval,Act.put]) HOr.o (.inr ⟨byteK.sl.mono (fun _ _ _=>trivial) HBY.o,any_u8⟩) HBr.o HBr.o.size (by omega) ?_);intro v7 w7 ho7 hb7 hg7 hv7;have HO7:=Zz ho7;have HB7:=Zz hb7;clear ho7 hb7 hg7 hv7)
      go_roundw
      case rel=>exact ⟨k + 1,by omega,by go_num,Zz (by rw [HT3.o];exact HO7.o),HB7⟩
      case measure=>simp [intOf];omega
     ·
      obtain rfl:k = l.length:=by omega
      rw [List.take_of_length_le (lR _)] at HOq;go_wp2_with fail;go_ret2;exact ⟨HBq.o,.inl ⟨HM.o,_,rfl,by rw [<- HF.o];exact HOq.o⟩⟩
end BoxPack
namespace Encode
open Go.RowKit Go.Lib B Rd TermPure LinesPure Tri SortP OrdG TermW Cmp StoreW Clones Search FrontP FrontW PackW StoreP IdsCmp IdsW IdsAll
theorem strs_snoc (l:List (List UInt8)) (k:Nat) (h:k < l.length):strs (l.take k) ++ [mkS l[k]] = strs (l.take (k + 1)):=by
 unfold strs;rw [Zt h,List.map_append]
 try rfl
theorem nums_snoc (I:List Ids) (k:Nat) (h:k < I.length):natZ (nums (I.take k)) ++ [(I[k].a:Int),(I[k].b:Int),(I[k].c:Int)] = natZ (nums (I.take (k + 1))):=by
 unfold nums natZ;rw [Zt h,List.flatMap_append,List.map_append];simp
theorem three_ints (W:World) (a b c:Nat) (ha:a <= 1000000) (hb:b <= 1000000) (hc:c <= 1000000):intK.sl.M (W.alloc (.cells #[.int .i64 (a:Int),.int .i64 (b:Int),.int .i64 (c:Int)] 40)) (fun _=>True) [(a:Int),(b:Int),(c:Int)] [.slice (some ⟨W.heap.size,0,none⟩) 3 3]:=by
 refine ⟨some ⟨W.heap.size,0,none⟩,3,rfl,lR _,⟨by simp,by unfold maxLen;omega⟩,fun h=>(by cases h),fun i x hx=>?_⟩
 match i with
 | 0 =>
  simp at hx;subst hx;refine ⟨_,[.int .i64 (a:Int)],rfl,trivial,⟨rfl,by omega⟩,fun j u hu=>?_⟩;rw [add_plain,World.cell?,Kd.heap_new]
  match j with
  | 0=>simp at hu;subst hu;rfl
  | j + 1=>simp at hu
 | 1 =>
  simp at hx;subst hx;refine ⟨_,[.int .i64 (b:Int)],rfl,trivial,⟨rfl,by omega⟩,fun j u hu=>?_⟩;rw [add_plain,World.cell?,Kd.heap_new]
  match j with
  | 0=>simp at hu;subst hu;rfl
  | j + 1=>simp at hu
 | 2 =>
  simp at hx;subst hx;refine ⟨_,[.int .i64 (c:Int)],rfl,trivial,⟨rfl,by omega⟩,fun j u hu=>?_⟩;rw [add_plain,World.cell?,Kd.heap_new]
  match j with
  | 0=>simp at hu;subst hu;rfl
  | j + 1=>simp at hu
 | i + 3=>simp at hx
theorem ids_row {w:World} {ok:Nat -> Prop} {l:List Ids} {A:Option Addr} {c:Nat} (h:idsK.sl.M w ok l [.slice A l.length c]) (hp:0 < l.length) :
  ∃ b off,A = some ⟨b,off,none⟩/\b < w.heap.size/\∀ i (hi:i < l.length),I3 w b (off + i * 3) l[i]:=by
 obtain ⟨A',c',he,hlc,_,hA,hrow⟩:=h;obtain ⟨rfl,rfl⟩:A = A'/\c = c':=by simpa using he
 obtain ⟨b,off,hAe,_,hb,hcells⟩:=Kd.row_addr hrow hp;refine ⟨b,off,hAe,hb,fun i hi=>?_⟩;obtain ⟨cs,⟨hcs,_⟩,hcell⟩:=hcells i hi;subst hcs;exact I3.of hcell
theorem dict_below {w w':World} {g:Nat} {l:List (List UInt8)} (h:DictAt w (fun _=>True) g l) (hb:Below w.heap.size w w'):DictAt w' (fun _=>True) g l:=by
 obtain ⟨A,c,hc,hM⟩:=h;exact ⟨A,c,(hb.cell (p:=⟨g,0,none⟩) (cell_lt hc)).trans hc,strK.sl.mono (fun _ _ _=>trivial) (Kd.M_below (Kd.M_bound hM) hb)⟩
theorem wrap_a (n:Nat) (h:n <= 100):IntKind.u8.wrap (IntKind.i64.wrap ((n:Int) / 256)) = (n:Int) / 256:=by
 rw [Zw,IntKind.wrap_u8'];omega
theorem wrap_b (n:Nat) (h:n <= 100):IntKind.u8.wrap ((n:Int).tmod 256) = (n:Int) % 256:=by
 rw [Int.tmod_eq_emod_of_nonneg (by omega),IntKind.wrap_u8'];omega
theorem two_secs {W:World} {i1 i2:Int} {b1 b2:List UInt8} {u1 u2:Value} (h1:byteK.sl.M W (fun _=>True) b1 [u1]) (h2:byteK.sl.M W (fun _=>True) b2 [u2]) (f1:0 <= i1/\i1 <= 255) (f2:0 <= i2/\i2 <= 255) :
  BoxPack.secK.sl.M (W.alloc (.cells #[.int .i64 i1,u1,.int .i64 i2,u2] 82)) (fun _=>True) [(i1,b1),(i2,b2)] [.slice (some ⟨W.heap.size,0,none⟩) 2 2]:=by
 have hb:Below W.heap.size W (W.alloc (.cells #[.int .i64 i1,u1,.int .i64 i2,u2] 82)):=bel_alloc (bR _ _) _;have m1:=byteK.sl.mono (ok':=fun _=>True) (fun _ _ _=>trivial) (Kd.M_below (Kd.M_bound h1) hb);have m2:=byteK.sl.mono (ok':=fun _=>True) (fun _ _ _=>trivial) (Kd.M_below (Kd.M_bound h2) hb);refine ⟨some ⟨W.heap.size,0,none⟩,2,rfl,lR _,⟨by simp,by unfold maxLen;omega⟩,fun h=>(by cases h),fun i x hx=>?_⟩
 match i with
 | 0 =>
  simp at hx;subst hx;refine ⟨_,[.int .i64 i1,u1],rfl,trivial,⟨[.int .i64 i1],[u1],rfl,⟨rfl,by dsimp only;omega⟩,m1⟩,fun j u hu=>?_⟩;rw [add_plain,World.cell?,Kd.heap_new]
  match j with
  | 0=>simp at hu;subst hu;rfl
  | 1=>simp at hu;subst hu;rfl
  | j + 2=>simp at hu
 | 1 =>
  simp at hx;subst hx;refine ⟨_,[.int .i64 i2,u2],rfl,trivial,⟨[.int .i64 i2],[u2],rfl,⟨rfl,by dsimp only;omega⟩,m2⟩,fun j u hu=>?_⟩;rw [add_plain,World.cell?,Kd.heap_new]
  match j with
  | 0=>simp at hu;subst hu;rfl
  | 1=>simp at hu;subst hu;rfl
  | j + 2=>simp at hu
 | i + 2=>simp at hx
theorem pack_enc {T:List Triple} (h:Valid T) (hl:T.length <= 100) (v:Value) (w:World) (m:BoxPack.secK.sl.M w (fun _=>True) (secs2 T) [v]) :
  Calls Tryz.prog 60 #[v] w fun e w'=>(∃ u,e = .returned (.tuple #[u,.int .i64 0])/\byteK.own 5 w' w.heap.size (fun _=>True) u (encT T))/\Below w.heap.size w w':=by
 refine (BoxPack.pack_calls (secs2 T) v w m).mono ?_;rintro e w' ⟨hb,⟨_,u,he,ho⟩ | ⟨hn,_⟩⟩
 ·
  exact ⟨⟨u,he,ho⟩,hb⟩
 ·
  exact absurd (enc_may h hl) hn
theorem encode_calls (T:List Triple) (hv:Valid T) (hl:T.length <= 100) (g:Nat) (w:World) (ok:Nat -> Prop) (h:StoreAt w ok g T) :
  Calls Tryz.prog 28 #[.pointer (some ⟨g,0,none⟩)] w fun e w'=>(∃ v,e = .returned v/\byteK.own 5 w' w.heap.size (fun _=>True) v (encT T))/\Below w.heap.size w w':=by
 obtain ⟨_,⟨A0,cp0,hg0,_⟩,⟨A1,cp1,hg1,hM1⟩,r,hg2,hR⟩:=h;have hglt:g < w.heap.size:=cell_lt hg0;have HG0:=Zz (fun W (hb:Below w.heap.size w W)=>(hb.cell (p:=⟨g,0,none⟩) hglt).trans hg0);have HG1:=Zz (fun W (hb:Below w.heap.size w W)=>(hb.cell (p:=⟨g,1,none⟩) hglt).trans hg1);have HG2:=Zz (fun W (hb:Below w.heap.size w W)=>(hb.cell (p:=⟨g,2,none⟩) hglt).trans hg2);have HRow:=Zz (fun hp=>term_cells (Kd.M_bound hM1) hp);have HRing:=Zz (fun W (hb:Below w.heap.size w W)=>all_calls anyP (idsT T) (by rw [ids_len];exact hl) r W ok (hR.below hb));rw [filter_any] at HRing;unfold patL anyP at HRing;dsimp only at HRing;have HV:=Zz hv;have HTx:Hid (texts T = (termsT T).map shown):=Zz rfl;have HShort:=Zz (texts_short hv);have HRise:=Zz (texts_rise hv);have HIs:=Zz (termsT_is hv);have hE:=E_len hv hl;have HPk:=Zz (pack_enc hv hl);have HBits:=Zz (nums_bits hv hl);have HWide:Hid (wide T = Lib.bitLen (termsT T).length/\wide T <= 9):=Zz ⟨rfl,wide_le hv hl⟩;have HIdl:Hid ((idsT T).length = T.length):=Zz (ids_len T);have HIb:Hid (∀ x ∈ idsT T,x.a <= 1000/\x.b <= 1000/\x.c <= 1000):=Zz (fun x hx=>by
  obtain ⟨q1,q2,q3⟩:=Made.good_ids hv hl x hx;omega)
 have HBl:=Zz (body_len hv hl);have HSecs:Hid (secs2 T = [(1,frontB (texts T)),(2,headN T.length ++ packB (nums (idsT T)) (wide T))]):=Zz rfl;obtain ⟨L,hL⟩:∃ L,L = texts T:=⟨_,rfl⟩;obtain ⟨E,hEe⟩:∃ E,E = termsT T:=⟨_,rfl⟩;obtain ⟨I,hI⟩:∃ I,I = idsT T:=⟨_,rfl⟩;have HLl:Hid (L.length = E.length):=Zz (by rw [hL,hEe];unfold texts;simp);rw [<- hL] at HTx HShort HRise HSecs;rw [<- hEe] at HTx HG1 HRow HIs hE HWide;rw [<- hI] at HRing HBits HIdl HIb HSecs HBl;have HO0:Hid (strK.own 9 w w.heap.size Clones.TT (.slice none 0 0) (strs (L.take 0))):=Zz (Kd.own_nil _ _ _ _ _);clear hg0 hg1 hg2 hM1 hR hv hL hEe hI;have k1:=HG1.o w (bR _ _);go_enter func28,ntmps28;go_wp2;go_loopw [3,22] (fun v3 vk wr=>∃ k:Nat,vk = .int .i64 k/\k <= E.length/\Hid (strK.own 9 wr w.heap.size Clones.TT v3 (strs (L.take k))/\Below w.heap.size w wr)) (fun _ vk _=>E.length - (intOf vk).toNat)
 case atStart=>exact ⟨0,rfl,by omega,Zz ⟨HO0.o,bR _ _⟩⟩
 case round =>
  obtain ⟨k,rfl,hk,HI⟩:=hrel;clear HO0 k1;obtain ⟨X,hX⟩:∃ X,X = strs (L.take k):=⟨_,rfl⟩;rw [<- hX] at HI;have HXe:=Zz hX;clear hX;obtain ⟨A3,c3,rfl,_,_⟩:=Kd.own_slice HI.o.1;by_cases hlt:k < E.length
  ·
   have hd:decide (k < E.length) = true:=dT hlt;have ik:(k:Int) < (E.length:Int):=by omega
   obtain ⟨b,off,rfl,_,hbs,hcells⟩:=HRow.o (by omega);have hcx:=(hcells k hlt).below HI.o.2;have hkL:k < L.length:=by rw [HLl.o];exact hlt
   have hsn:=strs_snoc L k hkL;have hsh:=HShort.o _ (Zm hkL);have hLk:L[k] = shown E[k]:=by
    have:∀ (X:List (List UInt8)) (hx:X = E.map shown) (h:k < X.length),X[k] = shown E[k]:=by rintro X rfl h;simp
    exact this L HTx.o hkL
   obtain ⟨x,hx⟩:∃ x,x = E[k]:=⟨_,rfl⟩;rw [<- hx] at hcx hLk;have hxi:=HIs.o x (by rw [hx];exact Zm hlt);rw [hLk] at hsn hsh;obtain ⟨S1,hS1⟩:∃ S1,S1 = shown x:=⟨_,rfl⟩;have HSh:=Zz (fun W=>Show.show_calls x (by have:=ParseP.is_small hxi;omega) (by have:=ParseP.is_small hxi;omega) W);rw [<- hS1] at hsn hsh HSh;have hbx:Below wr.heap.size wr (wr.alloc (.cells (termL x).toArray 24)):=bel_alloc (bR _ _) _;have hnx:=C3.new wr x;obtain ⟨w0,hw0⟩:∃ w0,w0 = wr.alloc (.cells (termL x).toArray 24):=⟨_,rfl⟩;rw [<- hw0] at hbx hnx;have HW:Hid (wr.alloc (.cells (termL x).toArray 24) = w0):=Zz hw0.symm;have HB0:=Zz (bel_step HI.o.2 hbx);have HO1:=Zz (Kd.own_below HI.o.1 hbx);have HSn:=Zz hsn;have zS:=mkS_size S1;have HSz:Hid ((mkS S1).size <= 140737488355328):=Zz (by rw [zS];omega);have hlk:X.length <= 300:=by rw [HXe.o,strs_len,Zi];omega
   rw [<- HXe.o] at HSn;obtain ⟨x0,x1,x2⟩:=hcx;obtain ⟨y0,y1,y2⟩:=hnx;simp only [Nat.zero_add] at y1 y2;clear hcells hkL hsn hsh hLk hx hxi hS1 hbx hw0 HI;obtain ⟨xk,xt,xe⟩:=x;unfold Ref5.termV at HSh;unfold termL at HW;dsimp only at x0 x1 x2 y0 y1 y2 HSh HW;go_upto_region 7 with fail
   rw [HW.o];clear x0 x1 x2 HW;go_wp2_with (first
    | (go_at_call 56;refine (HSh.o _).mono ?_;rintro e w2 ⟨rfl,hb⟩;have HB2:=Zz (bel_step HB0.o hb);have HO2:=Zz (Kd.own_below HO1.o hb);clear hb)
    | (at_builtin;refine Kd.own_app1 strK (w0:=w2) w.heap.size rfl (.tmp 26) (.tmp 29) 51 9 zero_str 16 rfl underlying51 info_str rfl (by decide) _ X (mkS S1) [.string (mkS S1)] Clones.TT (by rfl) (by rfl) HO2.o ⟨rfl,HSz.o⟩ (bR _ _) HB2.o.size (by omega) ?_;intro v1 w3 ho1 hb1 hg1 hv1;clear hg1 hv1;rw [HSn.o] at ho1;have HO3:=Zz ho1;have HB3:=Zz (HB2.o.trans hb1);clear ho1 hb1;obtain ⟨A5,c5,rfl,_,_⟩:=Kd.own_slice HO3.o))
   go_roundw
   case rel=>exact ⟨k + 1,by go_num,by omega,Zz ⟨HO3.o,HB3.o⟩⟩
   case measure=>simp [intOf];omega
  ·
   have hd:decide (k < E.length) = false:=dF hlt;have hxl:X.length = L.length:=by rw [HXe.o,List.take_of_length_le (by rw [HLl.o];omega),strs_len]
   have HXL:Hid (X = strs L):=Zz (by rw [HXe.o,List.take_of_length_le (by rw [HLl.o];omega)]);have HOx:=Zz HI.o.1;have HBx:=Zz HI.o.2;have k2:=HG2.o wr HBx.o;have HRi:=Zz (HRing.o wr HBx.o);have HXlen:=Zz hxl;clear HI hxl HRow HXe;go_wp2_with fail;refine HRi.o.mono ?_;rintro e w5 ⟨⟨A4,c4,rfl,hM4⟩,hb⟩;have HB5:=Zz (bel_step HBx.o hb);have HO5:=Zz (Kd.own_below HOx.o hb);have HRI:=Zz (fun hp=>ids_row hM4 hp);have HN0:Hid (intK.own 3 w5 w5.heap.size Clones.TT (.slice none 0 0) (natZ (nums (I.take 0)))):=Zz (Kd.own_nil _ _ _ _ _);have hIl:I.length <= 100:=by rw [HIdl.o];exact hl
   clear hM4 hb HRi HRing HOx HBx k2;go_wp2;go_loopw [6,39] (fun v6 vk wr=>∃ k:Nat,vk = .int .i64 k/\k <= I.length/\Hid (intK.own 3 wr w5.heap.size Clones.TT v6 (natZ (nums (I.take k)))/\Below w5.heap.size w5 wr)) (fun _ vk _=>I.length - (intOf vk).toNat)
   case atStart=>exact ⟨0,rfl,by omega,Zz ⟨HN0.o,bR _ _⟩⟩
   case round =>
    obtain ⟨k2,rfl,hk2,HJ⟩:=hrel;clear HN0;obtain ⟨Y,hY⟩:∃ Y,Y = natZ (nums (I.take k2)):=⟨_,rfl⟩;rw [<- hY] at HJ;have HYe:=Zz hY;clear hY;obtain ⟨A6,c6,rfl,_,_⟩:=Kd.own_slice HJ.o.1;by_cases hlt2:k2 < I.length
    ·
     have hd2:decide (k2 < I.length) = true:=dT hlt2;have ik2:(k2:Int) < (I.length:Int):=by omega
     obtain ⟨b,off,rfl,hbs,hcells⟩:=HRI.o (by omega);have hcx:=(hcells k2 hlt2).below HJ.o.2;have hsn:=nums_snoc I k2 hlt2;obtain ⟨x,hx⟩:∃ x,x = I[k2]:=⟨_,rfl⟩;rw [<- hx] at hcx hsn;rw [<- HYe.o] at hsn;have hxb:=HIb.o x (by rw [hx];exact Zm hlt2);have HSn:=Zz hsn;have hylen:Y.length <= 300:=by rw [HYe.o,natZ_len,nums_len,Zi];omega
     have x0:=hcx 0 (by decide);have x1:=hcx 1 (by decide);have x2:=hcx 2 (by decide);simp only [Nat.add_zero,at3] at x0 x1 x2;clear hcells hcx hsn hx;obtain ⟨xa,xb,xc⟩:=x;dsimp only at x0 x1 x2 HSn hxb;have HThree:=Zz (fun W=>three_ints W xa xb xc (by omega) (by omega) (by omega));go_wp2_with (at_builtin;refine Kd.own_app intK w5.heap.size rfl (.tmp 43) (.tmp 44) 74 3 zero_int 8 rfl underlying74 info_int rfl (by decide) _ Y [(xa:Int),(xb:Int),(xc:Int)] (some ⟨wr.heap.size,0,none⟩) 3 Clones.TT (by rfl) (by rfl) (Kd.own_alloc HJ.o.1 _) (.inr ⟨HThree.o _,Clones.any_int⟩) (bel_alloc HJ.o.2 _) (by have:=HJ.o.2.size;simp;omega) (by simp;omega) ?_;intro v1 w7 ho1 hb1 hg1 hv1;clear hg1 hv1;rw [HSn.o] at ho1;have HO7:=Zz ho1;have HB7:=Zz hb1;clear ho1 hb1;obtain ⟨A7,c7,rfl,_,_⟩:=Kd.own_slice HO7.o)
     go_wp2;go_roundw
     case rel=>exact ⟨k2 + 1,by go_num,by omega,Zz ⟨HO7.o,HB7.o⟩⟩
     case measure=>simp [intOf];omega
    ·
     have hd2:decide (k2 < I.length) = false:=dF hlt2;have HYn:Hid (Y = natZ (nums I)):=Zz (by rw [HYe.o,List.take_of_length_le (by omega)]);have hyl:Y.length = (nums I).length:=by rw [HYn.o,natZ_len]
     have HYl:=Zz hyl;have hBw:=bel_step HB5.o HJ.o.2;have HBw:=Zz hBw;have HNew:=Zz (new_calls L (by rw [HLl.o];exact hE) (fun x hx=>by
      rw [HTx.o] at hx;obtain ⟨t,ht,rfl⟩:=List.mem_map.1 hx;have h1:=HShort.o (shown t) (by rw [HTx.o];exact List.mem_map.2 ⟨t,ht,rfl⟩);exact ⟨shown_ne (HIs.o t ht),by omega⟩) HRise.o A3 c3 wr (by
       have h1:=Kd.own_sl (ok:=Clones.TT) (ok':=fun _=>True) (Kd.own_below HO5.o HJ.o.2) (fun _ _=>trivial) (fun _ _=>trivial);rw [HXL.o,strs_len] at h1;exact h1))
     rw [<- HXlen.o] at HNew;have HY6:=Zz (Kd.own_sl (ok:=Clones.TT) (ok':=fun _=>True) HJ.o.1 (fun _ _=>trivial) (fun _ _=>trivial));clear hyl hBw HJ HRI;go_wp2_with fail;refine HNew.o.mono ?_;rintro e w8 ⟨⟨gd,rfl,hgd,hD⟩,hb⟩;have HB8:=Zz (bel_step HBw.o hb);have HD8:=Zz hD;have k1:=HG1.o w8 HB8.o;have HWd:=Zz (width_calls E.length (by omega) w8);rw [<- HWide.o.1] at HWd;obtain ⟨wd,hwd⟩:∃ wd,wd = wide T:=⟨_,rfl⟩;rw [<- hwd] at HWd HBits HSecs HBl;have HW9:Hid (wd <= 9):=Zz (by rw [hwd];exact HWide.o.2);have HPc:=Zz (pack_calls (nums I) wd (by have:=HW9.o;omega) (by rw [nums_len,HIdl.o];omega) HBits.o A6 c6 w8 (by
      have h1:=Kd.M_bound (Kd.M_below (Kd.M_bound HY6.o) hb);rw [HYn.o,natZ_len] at h1;exact h1))
     rw [<- HYl.o] at HPc;obtain ⟨Pb,hPb⟩:∃ Pb,Pb = packB (nums I) wd:=⟨_,rfl⟩;rw [<- hPb] at HPc HSecs HBl;obtain ⟨Bd,hBd⟩:∃ Bd,Bd = headN T.length ++ Pb:=⟨_,rfl⟩;have HBd:=Zz hBd;rw [<- hBd] at HSecs HBl;obtain ⟨F,hF⟩:∃ F,F = frontB L:=⟨_,rfl⟩;have HFe:=Zz hF;rw [<- hF] at HSecs;have hPl:Pb.length <= 400:=by have:=HBl.o;rw [hBd,Zl] at this;omega
     clear hPb hBd hF;clear hD hb HNew HY6 hgd hwd;dsimp only;go_wp2_with (first
      | (go_at_call 59;refine HWd.o.mono ?_;rintro e w' ⟨rfl,rfl⟩)
      | (go_at_call 58;refine HPc.o.mono ?_;rintro e w9 ⟨⟨v9,rfl,ho9⟩,hb9⟩;have HB9:=Zz (bel_step HB8.o hb9);have HO9:=Zz ho9;have HD9:=Zz (dict_below HD8.o hb9);clear ho9 hb9;obtain ⟨A9,c9,rfl,_,_⟩:=Kd.own_slice HO9.o))
     have HK0:=Zz (fun W (hb:Below w9.heap.size w9 W)=>HG0.o W (bel_step HB9.o hb));have hY:=bR w9.heap.size w9;have k0:=HG0.o w9 HB9.o;have HRr:=Zz (Kd.own_sl (ok:=Clones.TT) (ok':=fun _=>True) HO9.o (fun _ _=>trivial) (fun _ _=>trivial));have HQa:Hid (IntKind.u8.wrap (IntKind.i64.wrap ((T.length:Int) / 256)) = (T.length:Int) / 256):=Zz (wrap_a _ hl);have HQb:Hid (IntKind.u8.wrap ((T.length:Int).tmod 256) = (T.length:Int) % 256):=Zz (wrap_b _ hl);go_cut [11] (fun v11 wx=>Hid (byteK.own 5 wx w9.heap.size Clones.TT v11 Bd)/\Hid (Below w9.heap.size w9 wx))
     case first =>
      go_region_held3 (fun w'=>w'.cell? ⟨g,0,none⟩ = some (.slice A0 T.length cp0))
       (exact HK0.o _ (by repeat (first | assumption | exact bR _ _ | refine bel_drew ?_ | refine bel_alloc ?_ _)))
       (first
        | (refine Kd.own_app_step byteK (w0:=w9) w9.heap.size (by rfl) (.tmp 77) (.tmp 78) 55 5 (.int .u8 0) 1 (by rfl) underlying55 PackW.info_u8 rfl (by decide) (.slice (some ⟨w9.heap.size,0,none⟩) 2 2) (headN T.length) Pb A9 c9 Clones.TT (by rfl) (by rfl) ?ho (.inr ⟨?hr,any_u8⟩) ?hb ?hs ?hl ?_;go_loud (case hl=>have hh2:(headN T.length).length = 2:=rfl;omega);go_loud (case ho=>(rw [HQa.o,HQb.o];refine Kd.own_drew ?_;exact head_own _ _ _ (lR _) (by omega)));go_loud (case hr=>exact byteK.sl.mono (fun _ _ _=>trivial) (Kd.M_below (Kd.M_bound HRr.o) (by repeat (first | assumption | exact bR _ _ | refine bel_drew ?_ | refine bel_alloc ?_ _))));go_loud (case hb=>repeat (first | assumption | exact bR _ _ | refine bel_drew ?_ | refine bel_alloc ?_ _));go_loud (case hs=>first | (simp;done) | (simp;omega) | omega);intro v1 w10 ho1 hb1 hg1 hv1;go_loud (rw [<- HBd.o] at ho1);have HO10:=Zz ho1;have HB10:=Zz hb1;clear ho1 hg1 hv1)
        | fail)
      all_goals (go_wp2_with fail;go_meet;exact ⟨HO10,HB10⟩)
     case rest =>
      obtain ⟨HO10,HB10⟩:=hcut;have HBw10:=Zz (bel_step HB9.o HB10.o);have HD10:=Zz (dict_below HD9.o HB10.o);obtain ⟨A10,c10,rfl,_,_⟩:=Kd.own_slice HO10.o;have HBy:=Zz (bytes_calls L (by rw [HLl.o];exact hE) (fun x hx=>by have:=HShort.o x hx;omega) gd wc HD10.o);rw [<- HFe.o] at HBy;have HSw:=Zz (Kd.own_sl (ok:=Clones.TT) (ok':=fun _=>True) HO10.o (fun _ _=>trivial) (fun _ _=>trivial));clear k0 hY HK0 HRr;go_wp2_with (first
       | (go_at_call 61;refine HBy.o.mono ?_;rintro e w11 ⟨⟨v11,rfl,ho⟩,hb⟩;have HB11:=Zz (bel_step HBw10.o hb);have HSf:=Zz (Kd.own_sl (ok:=Clones.TT) (ok':=fun _=>True) ho (fun _ _=>trivial) (fun _ _=>trivial));have HSb:=Zz (byteK.sl.mono (ok':=fun _=>True) (fun _ _ _=>trivial) (Kd.M_below (Kd.M_bound HSw.o) hb));obtain ⟨A11,c11,rfl,_,_⟩:=Kd.own_slice ho;clear ho hb)
       | (go_at_call 60;refine (HPk.o _ _ (by rw [HSecs.o];exact two_secs HSf.o HSb.o (by omega) (by omega))).mono ?_;rintro e w12 ⟨⟨u,rfl,ho⟩,hb⟩;have HB12:=Zz (bel_step (bel_alloc HB11.o _) hb);have HOe:=Zz (Kd.own_lower (base':=w.heap.size) (by have:=HB11.o.size;simp;omega) ho);clear ho hb))
      go_ret;exact ⟨⟨_,rfl,HOe.o⟩,HB12.o⟩
end Encode
namespace SCommon
open Go.RowKit Go.Lib B Rd TermPure LinesPure Tri SortP OrdG Print Cmp Long Long11 StoreW StoreM Env ParseP Parse ParseOk SPrint StoreP Encode SortW
theorem conv_row {w W:World} {l:List UInt8} {A:Option Addr} {c:Nat} (h:byteK.sl.M w (fun _=>True) l [.slice A l.length c]) (hb:Below w.heap.size w W):(convert 55 9 (.slice A l.length c)).run Tryz.prog W = .ok (.string (mkS l)) W:=by
 have hm:=Kd.M_below (Kd.M_bound h) hb;obtain ⟨A',c',he,_,_,_,hr⟩:=hm;obtain ⟨rfl,rfl⟩:A = A'/\c = c':=by simpa using he
 exact conv_string (P:=Tryz.prog) underlying55 underlying5 underlying9 hr
end SCommon
end Go.Proofs.YtnplommdgfgboaaGreatDoor
