/-
  Texts of the claim, one behind the other: Bld, LinesPure, Prg, Prg2, Prg3, Prg4, Prg5, LineEq, Round, SortPure, OrdG, Ref4, Ref5.
-/
import Derived.Test.YtnplommdgfgboaaGreatDoorK1
import Derived.Lib.Case
import Derived.RegionTactic
import Derived.Deep.RegionHeld3
import Derived.StillTailTactics
import Derived.Laws.RangeAny
import Derived.Laws.RangeString
import Derived.Laws.Runes
import Derived.IntWalk
import Derived.Test.YtnplommdgfgboaaGreatDoorProg
import Derived.WalkKit
import Derived.Lib.Hide
import Derived.Deep.LoopGhost
import Derived.Deep.QuietTactic
import Derived.BigQuiet
import Derived.Deep.DeepCutAuto
set_option linter.unusedVariables false
set_option linter.unusedSimpArgs false
namespace Go.Proofs.YtnplommdgfgboaaGreatDoor.Bld
open Go.RowKit Go.Lib B Rd Env
def Bld (B b:Nat) (out:List UInt8) (w:World):Prop:=Lib.IsBuilderF 161 5 B b (Lib.byteCells out) w
theorem BldAt.moved {T e:TypeId} {B b:Nat} {p:Value} {bs:List Value} {w w':World} (h:Lib.BuilderAtF T e B b p bs w) (hm:∀ k,B ≤ k → k < w.heap.size → w'.heap[k]? = w.heap[k]?):Lib.BuilderAtF T e B b p bs w':=by
 obtain ⟨hB,v,hb,hown,hne⟩:=h
 have lt:∀ {k:Nat} {o:Obj},w.heap[k]? = some o → k < w.heap.size:=fun h=>(Array.getElem?_eq_some_iff.1 h).1
 refine ⟨hB,v,(hm b hB (lt hb)).trans hb,⟨hown.1,?_⟩,hne⟩
 rcases hown.2 with hn | ⟨g,cap,cur,fz,hv,hbg,hg,rest⟩
 ·
  exact .inl hn
 ·
  exact .inr ⟨g,cap,cur,fz,hv,hbg,(hm g hbg (lt hg)).trans hg,rest⟩
theorem Bld.moved {B b:Nat} {out:List UInt8} {w w':World} (h:Bld B b out w) (hm:∀ k,B ≤ k → k < w.heap.size → w'.heap[k]? = w.heap[k]?):Bld B b out w':=
 h.elim (fun x=>.inl (BldAt.moved x hm)) (fun x=>.inr (BldAt.moved x hm))
theorem Bld.below {B b:Nat} {out:List UInt8} {w w':World} (h:Bld B b out w) (hb:Below w.heap.size w w'):Bld B b out w':=h.moved fun k _ hk=>hb.block k hk
theorem Bld.grown {B b rb:Nat} {out:List UInt8} {w w':World} (h:Bld B b out w) (hg:w.grownBy w' (some rb)) (hr:rb < B):Bld B b out w':=h.moved fun k h1 hk=>hg.block k hk (by simp;omega)
theorem Bld.lt {B b:Nat} {out:List UInt8} {w:World} (h:Bld B b out w):B ≤ b∧b < w.heap.size:=by
 rcases h with ⟨hB,v,hb,_⟩ | ⟨hB,v,hb,_⟩
 ·
  exact ⟨hB,(Array.getElem?_eq_some_iff.1 hb).1⟩
 ·
  exact ⟨hB,(Array.getElem?_eq_some_iff.1 hb).1⟩
theorem Bld.new (w:World):Bld w.heap.size w.heap.size [] (w.alloc (.cells #[.pointer none,.slice none 0 0] 161)):=
 .inl ⟨Nat.le_refl _,.slice none 0 0,Kd.heap_new _ _,World.ownsRowF_nil _ _ _ _,by simp [Value.ownBlock]⟩
theorem runeCells_eq (r:Int):Lib.runeCells r = Lib.byteCells (encodeRune r):=by
 unfold Lib.runeCells Lib.byteCells encodeRune
 rw [List.map_map]
 apply List.map_congr_left
 intro x hx
 have:=encodeRuneZ_byte r x hx
 show Value.int .u8 x = .int .u8 ((x.toNat.toUInt8).toNat:Int)
 congr 1
 rw [UInt8.toNat_ofNat']
 omega
theorem byteCells_append (a b:List UInt8):Lib.byteCells a ++ Lib.byteCells b = Lib.byteCells (a ++ b):=by simp [Lib.byteCells]
theorem byteCells_len (a:List UInt8):(Lib.byteCells a).length = a.length:=by simp [Lib.byteCells]
theorem writeRune_calls (B b:Nat) (out:List UInt8) (r:Nat) (hr:r ≤ 2147483647) (w:World) (h:Bld B b out w) (hl:out.length + 4 ≤ 140737488355328) (hB:B ≤ w.heap.size) :
  Calls Tryz.prog 236 #[.pointer (some ⟨b,0,none⟩),.int .i32 (r:Int)] w fun e w'=>(∃ v,e = .returned v)∧Bld B b (out ++ encodeRune (r:Int)) w'∧Below B w w':=by
 refine (Any.Builder_WriteRune_k SB.lays168 Tryz.Builder_Extra_159 B b (Lib.byteCells out) (r:Int) (by omega) (by omega) w h (by rw [byteCells_len];exact hl) hB).mono ?_
 rintro e w' ⟨h1,h2,h3,_⟩
 refine ⟨⟨_,h1⟩,.inr ?_,h3⟩
 rw [runeCells_eq,byteCells_append] at h2
 exact h2
theorem strCells_eq (l:List UInt8):Lib.strCells (mkS l) = Lib.byteCells l:=by
 unfold Lib.strCells Lib.byteCells
 rfl
theorem writeString_calls (B b:Nat) (out l:List UInt8) (w:World) (h:Bld B b out w) (hl:out.length + l.length ≤ 140737488355328) (hB:B ≤ w.heap.size) :
  Calls Tryz.prog 106 #[.pointer (some ⟨b,0,none⟩),.string (mkS l)] w fun e w'=>(∃ v,e = .returned v)∧Bld B b (out ++ l) w'∧Below B w w':=by
 refine (Any.Builder_WriteString_k SB.lays166 Tryz.Builder_Extra_159 B b (Lib.byteCells out) (mkS l) w h (by rw [byteCells_len,mkS_size];exact hl) hB).mono ?_
 rintro e w' ⟨h1,h2,h3,_⟩
 refine ⟨⟨_,h1⟩,.inr ?_,h3⟩
 rw [strCells_eq,byteCells_append] at h2
 exact h2
theorem string_calls (B b:Nat) (out:List UInt8) (w:World) (h:Bld B b out w) (hB:B ≤ w.heap.size) :
  Calls Tryz.prog 107 #[.pointer (some ⟨b,0,none⟩)] w fun e w'=>e = .returned (.string (mkS out))∧Bld B b out w'∧Below B w w':=
 (Any.Builder_String_any_k SB.lays169 Tryz.Builder_Extra_159 B b out w h hB).mono fun e w' ⟨h1,h2,h3,_⟩=>⟨h1,h2,h3⟩
end Go.Proofs.YtnplommdgfgboaaGreatDoor.Bld
namespace Go.Proofs.YtnplommdgfgboaaGreatDoor.LinesPure
open Go.Lib Utf TermPure
structure Triple where
 s:Term
 p:Term
 o:Term
deriving DecidableEq
def isTriple (t:Triple):Bool:=is t.s && (is t.p && (is t.o && ((decide (t.s.kind = 1) || decide (t.s.kind = 2)) && decide (t.p.kind = 1))))
def hexV (b:UInt8):Option Nat:=
 if 48 ≤ b.toNat∧b.toNat ≤ 57 then some (b.toNat - 48)
 else if 97 ≤ b.toNat∧b.toNat ≤ 102 then some (b.toNat - 87)
 else if 65 ≤ b.toNat∧b.toNat ≤ 70 then some (b.toNat - 55)
 else none
def hexGo:Nat → Nat → List UInt8 → Option (Nat × List UInt8)
 | 0,v,l=>some (v,l)
 | _ + 1,_,[]=>none
 | n + 1,v,b :: l=>match hexV b with
  | none=>none
  | some d=>hexGo n (v * 16 + d) l
def escV (b:UInt8):Option UInt8:=
 if b = 116 then some 9 else if b = 98 then some 8 else if b = 110 then some 10 else if b = 114 then some 13 else if b = 102 then some 12
 else if b = 34 then some 34 else if b = 39 then some 39 else if b = 92 then some 92 else none
def rune (r:Option (Nat × List UInt8)):Option (List UInt8 × List UInt8):=
 match r with
 | none=>none
 | some (v,l)=>if Lib.validRune (v:Int) = true then some (encodeRune (v:Int),l) else none
def esc (lit:Bool):List UInt8 → Option (List UInt8 × List UInt8)
 | []=>none
 | b :: l =>
  if b = 117 then rune (hexGo 4 0 l)
  else if b = 85 then rune (hexGo 8 0 l)
  else if lit then match escV b with
   | some c=>some ([c],l)
   | none=>none
  else none
def upTo (stop:UInt8) (lit nl:Bool):Nat → List UInt8 → Option (List UInt8 × List UInt8)
 | 0,_=>none
 | _ + 1,[]=>none
 | n + 1,b :: l =>
  if b = stop then some ([],l)
  else if b = 92 then match esc lit l with
   | none=>none
   | some (o,r)=>(upTo stop lit nl n r).map fun x=>(o ++ x.1,x.2)
  else if nl = true∧(b = 10 ∨ b = 13) then none
  else (upTo stop lit nl n l).map fun x=>(b :: x.1,x.2)
theorem hexGo_rest:∀ (n v:Nat) (l:List UInt8) (x:Nat) (r:List UInt8),hexGo n v l = some (x,r) → r = l.drop n∧n ≤ l.length
 | 0,v,l,x,r,h=>by
  rw [hexGo] at h
  cases h
  exact ⟨rfl,Nat.zero_le _⟩
 | n + 1,v,[],x,r,h=>by rw [hexGo] at h;cases h
 | n + 1,v,b :: l,x,r,h=>by
  rw [hexGo] at h
  cases hb:hexV b with
  | none=>rw [hb] at h;cases h
  | some d =>
   rw [hb] at h
   obtain ⟨h1,h2⟩:=hexGo_rest n _ l x r h
   exact ⟨h1,by simp;omega⟩
theorem hexGo_len (n v:Nat) (l:List UInt8) (x:Nat) (r:List UInt8) (h:hexGo n v l = some (x,r)):r.length ≤ l.length:=by
 obtain ⟨rfl,_⟩:=hexGo_rest n v l x r h
 simp
theorem rune_len (n:Nat) (l o r:List UInt8) (h:rune (hexGo n 0 l) = some (o,r)):r.length ≤ l.length:=by
 cases hg:hexGo n 0 l with
 | none=>rw [hg,rune] at h;cases h
 | some p =>
  obtain ⟨v,q⟩:=p
  rw [hg,rune] at h
  have:=hexGo_len _ _ _ _ _ hg
  split at h
  ·
   cases h;exact this
  ·
   cases h
theorem esc_len (lit:Bool) (l o r:List UInt8) (h:esc lit l = some (o,r)):r.length < l.length:=by
 cases l with
 | nil=>cases h
 | cons b t =>
  have key:r.length ≤ t.length:=by
   rw [esc] at h
   split at h
   ·
    exact rune_len _ _ _ _ h
   ·
    split at h
    ·
     exact rune_len _ _ _ _ h
    ·
     split at h
     ·
      split at h
      ·
       cases h;exact Nat.le_refl _
      ·
       cases h
     ·
      cases h
  simp
  omega
theorem encodeRune_len (r:Int):(encodeRune r).length ≤ 4:=by
 unfold encodeRune encodeRuneZ
 repeat' split
 all_goals simp
theorem esc_len2 (lit:Bool) (l o r:List UInt8) (h:esc lit l = some (o,r)):o.length + r.length ≤ l.length:=by
 have num:∀ (n:Nat) (t:List UInt8),4 ≤ n → rune (hexGo n 0 t) = some (o,r) → o.length + r.length ≤ t.length:=by
  intro n t hn h
  cases hg:hexGo n 0 t with
  | none=>rw [hg,rune] at h;cases h
  | some p =>
   obtain ⟨v,q⟩:=p
   rw [hg,rune] at h
   obtain ⟨rfl,h2⟩:=hexGo_rest n 0 t v q hg
   split at h
   ·
    cases h
    have:=encodeRune_len (v:Int)
    simp
    omega
   ·
    cases h
 cases l with
 | nil=>cases h
 | cons b t =>
  rw [esc] at h
  split at h
  ·
   have:=num 4 t (by decide) h
   simp
   omega
  ·
   split at h
   ·
    have:=num 8 t (by decide) h
    simp
    omega
   ·
    split at h
    ·
     split at h
     ·
      cases h;simp;omega
     ·
      cases h
    ·
     cases h
theorem upTo_fuel (stop:UInt8) (lit nl:Bool):∀ (n m:Nat) (l:List UInt8),l.length < n → l.length < m → upTo stop lit nl n l = upTo stop lit nl m l
 | 0,m,l,h,_=>by omega
 | n + 1,0,l,_,h=>by omega
 | n + 1,m + 1,[],_,_=>rfl
 | n + 1,m + 1,b :: l,hn,hm=>by
  simp at hn hm
  rw [upTo,upTo]
  split
  ·
   rfl
  ·
   split
   ·
    cases he:esc lit l with
    | none=>rfl
    | some p =>
     obtain ⟨o,r⟩:=p
     have:=esc_len lit l o r he
     dsimp only
     rw [upTo_fuel stop lit nl n m r (by omega) (by omega)]
   ·
    split
    ·
     rfl
    ·
     rw [upTo_fuel stop lit nl n m l (by omega) (by omega)]
def up (stop:UInt8) (lit nl:Bool) (l:List UInt8):Option (List UInt8 × List UInt8):=upTo stop lit nl (l.length + 1) l
theorem up_nil (stop:UInt8) (lit nl:Bool):up stop lit nl [] = none:=rfl
theorem up_stop (stop:UInt8) (lit nl:Bool) (l:List UInt8):up stop lit nl (stop :: l) = some ([],l):=by rw [up,upTo,if_pos rfl]
theorem up_esc_none (stop:UInt8) (lit nl:Bool) (b:UInt8) (l:List UInt8) (h:b ≠ stop) (h1:b = 92) (he:esc lit l = none):up stop lit nl (b :: l) = none:=by
 rw [up,upTo,if_neg h,if_pos h1,he]
theorem up_esc (stop:UInt8) (lit nl:Bool) (b:UInt8) (l o r:List UInt8) (h:b ≠ stop) (h1:b = 92) (he:esc lit l = some (o,r)):up stop lit nl (b :: l) = (up stop lit nl r).map fun x=>(o ++ x.1,x.2):=by
 have:=esc_len lit l o r he
 rw [up,upTo,if_neg h,if_pos h1,he]
 dsimp only
 rw [up,upTo_fuel stop lit nl (b :: l).length (r.length + 1) r (by simp;omega) (by omega)]
theorem up_line (stop:UInt8) (lit nl:Bool) (b:UInt8) (l:List UInt8) (h:b ≠ stop) (h1:b ≠ 92) (h2:nl = true∧(b = 10 ∨ b = 13)):up stop lit nl (b :: l) = none:=by
 rw [up,upTo,if_neg h,if_neg h1,if_pos h2]
theorem up_other (stop:UInt8) (lit nl:Bool) (b:UInt8) (l:List UInt8) (h:b ≠ stop) (h1:b ≠ 92) (h2:¬ (nl = true∧(b = 10 ∨ b = 13))):up stop lit nl (b :: l) = (up stop lit nl l).map fun x=>(b :: x.1,x.2):=by
 rw [up,upTo,if_neg h,if_neg h1,if_neg h2]
 try rfl
def blank (b:UInt8):Bool:=b == 32 || b == 9
def blanks (l:List UInt8):List UInt8:=l.dropWhile blank
def inRun (dash:Bool) (b:UInt8):Bool:=alnum b.toNat || (dash && b == 45)
def run (dash:Bool) (l:List UInt8):List UInt8 × List UInt8:=(l.takeWhile (inRun dash),l.dropWhile (inRun dash))
def literal (ref:Bool) (l:List UInt8):Option (Term × List UInt8):=
 match up 34 true true l with
 | none=>none
 | some (t,r) =>
  if [64].isPrefixOf r = true then some (⟨4,t,toLowerA (run true (r.drop 1)).1⟩,(run true (r.drop 1)).2)
  else if [94,94].isPrefixOf r = true then
   if [60].isPrefixOf (r.drop 2) = true then (up 62 false ref (r.drop 3)).map fun x=>(⟨5,t,x.1⟩,x.2)
   else if ref = true then some (⟨3,t,[]⟩,r) else none
  else some (⟨3,t,[]⟩,r)
def rawTerm (ref:Bool) (l:List UInt8):Option (Term × List UInt8):=
 if [60].isPrefixOf l = true then (up 62 false ref (l.drop 1)).map fun x=>(⟨1,x.1,[]⟩,x.2)
 else if [95,58].isPrefixOf l = true then some (⟨2,(run false (l.drop 2)).1,[]⟩,(run false (l.drop 2)).2)
 else if [34].isPrefixOf l = true then literal ref (l.drop 1)
 else none
def term (ref:Bool) (l:List UInt8):Option (Term × List UInt8):=
 match rawTerm ref l with
 | none=>none
 | some (t,r)=>if is t = true then some (t,r) else none
def over (l:List UInt8):Bool:=decide (l = []) || [35].isPrefixOf l
def lineOf (ref:Bool) (s:List UInt8):Option (Option Triple):=
 if validD s = false then none
 else if over (blanks s) = true then some none
 else match term ref (blanks s) with
  | none=>none
  | some (a,r)=>match term ref (blanks r) with
   | none=>none
   | some (p,r)=>match term ref (blanks r) with
    | none=>none
    | some (o,r) =>
     if [46].isPrefixOf (blanks r) = true∧over (blanks ((blanks r).drop 1)) = true∧isTriple ⟨a,p,o⟩ = true then some (some ⟨a,p,o⟩) else none
end Go.Proofs.YtnplommdgfgboaaGreatDoor.LinesPure
namespace Go.Proofs.YtnplommdgfgboaaGreatDoor.Prg
open Go.RowKit Go.Lib B Rd Utf TermPure LinesPure Tx Env Bld
theorem runeLen_calls (r:Int) (w:World):Calls Tryz.prog 250 #[.int .i32 r] w fun e w'=>e = .returned (.int .i64 (Lib.runeLen r))∧w = w':=
 (Tryz.utf8_RuneLen r w).mono fun e w' ⟨h1,h2⟩=>⟨h1,h2.symm⟩
theorem validRune_calls (r:Int) (w:World):Calls Tryz.prog 262 #[.int .i32 r] w fun e w'=>e = .returned (.bool (Lib.validRune r))∧w = w':=
 (Tryz.utf8_ValidRune r w).mono fun e w' ⟨h1,h2⟩=>⟨h1,h2.symm⟩
theorem next_calls (rb:Nat) (l:List UInt8) (hne:l ≠ []) (w:World) (he:Env w) (h:At w rb l false) :
  Calls Tryz.prog 160 #[.pointer (some ⟨rb,0,none⟩)] w fun e w'=>e = .returned (.int .i32 ((decodeL l).1:Nat))∧Below w.heap.size w w':=by
 obtain ⟨c0,c1,f0,f1,len⟩:=h
 have HE:=Lib.hid he
 have z:=mkS_toList l
 have hE:l.isEmpty = false:=by cases l with
  | nil=>exact absurd rfl hne
  | cons b t=>rfl
 have hE':¬ l = []:=hne
 clear he
 go_enter Tryz.func160,Tryz.ntmps160
 go_wp2_with fail
 refine (decode_calls l hne _ HE.out).mono ?_
 rintro e w1 ⟨rfl,hb1⟩
 have HB1:=Lib.hid hb1
 clear hb1
 go_wp2
 go_ret
 exact ⟨rfl,HB1.out⟩
theorem next_end_calls (rb:Nat) (l:List UInt8) (bad:Bool) (hb:bad = true ∨ l = []) (w:World) (h:At w rb l bad) :
  Calls Tryz.prog 160 #[.pointer (some ⟨rb,0,none⟩)] w fun e w'=>e = .returned (.int .i32 (-1))∧w = w':=by
 obtain ⟨c0,c1,f0,f1,len⟩:=h
 have z:=mkS_toList l
 cases bad with
 | true =>
  clear hb
  go_enter Tryz.func160,Tryz.ntmps160
  go_wp2
  go_ret
  exact ⟨rfl,rfl⟩
 | false =>
  obtain rfl:l = []:=by rcases hb with h | h;cases h;exact h
  clear hb
  go_enter Tryz.func160,Tryz.ntmps160
  go_wp2
  go_ret
  exact ⟨rfl,rfl⟩
theorem rune_len (l:List UInt8) (hne:l ≠ []) (hv:validD l = true):Lib.runeLen ((decodeL l).1:Nat) = ((decodeL l).2:Nat)∧(decodeL l).1 ≤ 1114111∧(decodeL l).2 ≤ l.length∧validD (l.drop (decodeL l).2) = true:=by
 rcases Utf.step l hne hv with ⟨b,t,rfl,hb,hd,ht⟩ | ⟨ch,t,c,hc⟩
 ·
  rw [hd]
  refine ⟨?_,by simp;omega,by simp,by simpa using ht⟩
  unfold Lib.runeLen
  dsimp only
  repeat' split
  all_goals omega
 ·
  rw [hc.dec]
  refine ⟨hc.rlen,hc.le,?_,?_⟩
  ·
   rw [hc.eq];simp
  ·
   have:=hc.rest
   rw [hc.eq,List.drop_left]
   exact this
theorem take_end_calls (rb:Nat) (l:List UInt8) (bad:Bool) (hb:bad = true ∨ l = []) (w:World) (h:At w rb l bad) :
  Calls Tryz.prog 234 #[.pointer (some ⟨rb,0,none⟩)] w fun e w'=>e = .returned (.int .i32 (-1))∧Step w w' rb l true:=by
 have HA:=Lib.hid h
 have HS:=Lib.hid (Step.refl h)
 obtain ⟨c0,c1,f0,f1,len⟩:=h
 go_enter Tryz.func234,Tryz.ntmps234
 go_wp2_with fail
 refine (next_end_calls rb l bad hb _ HA.out).mono ?_
 rintro e w1 ⟨rfl,rfl⟩
 go_wp2
 go_ret
 exact ⟨rfl,HS.out.set1 true⟩
set_option maxHeartbeats 1600000 in
theorem take_calls (rb:Nat) (l:List UInt8) (hne:l ≠ []) (hv:validD l = true) (w:World) (he:Env w) (h:At w rb l false) :
  Calls Tryz.prog 234 #[.pointer (some ⟨rb,0,none⟩)] w fun e w'=>e = .returned (.int .i32 ((decodeL l).1:Nat))∧Step w w' rb (l.drop (decodeL l).2) false:=by
 have HA:=Lib.hid h
 have HE:=Lib.hid he
 have HS:=Lib.hid (Step.refl h)
 obtain ⟨r1,r2,r3,r4⟩:=rune_len l hne hv
 have hlen:=h.len
 have HX:Hid ((mkS l).extract (decodeL l).2 l.length = mkS (l.drop (decodeL l).2)):=Lib.hid (by rw [mkS_extract,List.take_of_length_le (by simp)])
 have HR:=Lib.hid r1
 have HD:Hid ((l.drop (decodeL l).2).length ≤ l.length):=Lib.hid (by simp)
 have HNx:=Lib.hid (next_calls rb l hne)
 clear hv he h r1 r4 hne
 generalize (decodeL l).1 = c at *
 generalize (decodeL l).2 = k at *
 have z:=mkS_size l
 go_enter Tryz.func234,Tryz.ntmps234
 go_wp2_with fail
 refine (HNx.out _ HE.out HA.out).mono ?_
 rintro e w1 ⟨rfl,hb1⟩
 have HS1:=Lib.hid (HS.out.below hb1)
 have hc1:((c:Int) == -1) = false:=by rw [beq_eq_false_iff_ne];omega
 obtain ⟨c0,c1,f0,f1,_⟩:=HS1.out.at'
 clear hb1
 go_wp2_with fail
 go_region_with (go_at_call 250;refine (runeLen_calls _ _).mono ?_;rintro e w2 ⟨rfl,rfl⟩;rw [HR.out])
 all_goals go_wp2
 all_goals go_ret
 all_goals exact ⟨rfl,by rw [HX.out];exact (HS1.out.set0 (by have:=HD.out;omega)).drew⟩
theorem is_calls (rb:Nat) (l p:List UInt8) (w:World) (h:At w rb l false) :
  Calls Tryz.prog 162 #[.pointer (some ⟨rb,0,none⟩),.string (mkS p)] w fun e w'=>e = .returned (.bool (p.isPrefixOf l))∧Step w w' rb (if p.isPrefixOf l then l.drop p.length else l) false:=by
 have HS:=Lib.hid (Step.refl h)
 have hlen:=h.len
 have HC:=Lib.hid (cutPrefix_calls l p)
 have HQ:Hid ((if p.isPrefixOf l = true then l.drop p.length else l).length ≤ l.length):=Lib.hid (by split <;> simp)
 have HN:Hid (p.isPrefixOf l = false → (if p.isPrefixOf l = true then l.drop p.length else l) = l):=Lib.hid (fun h=>by rw [h];rfl)
 obtain ⟨c0,c1,f0,f1,_⟩:=h
 generalize (if p.isPrefixOf l = true then l.drop p.length else l) = q at *
 generalize p.isPrefixOf l = b at *
 go_enter Tryz.func162,Tryz.ntmps162
 go_wp2_with fail
 refine (HC.out _).mono ?_
 rintro e w1 ⟨rfl,rfl⟩
 clear HC
 cases b with
 | true =>
  go_wp2
  go_ret
  exact ⟨rfl,HS.out.set0 (by have:=HQ.out;omega)⟩
 | false =>
  go_wp2
  go_ret
  exact ⟨rfl,by have hq:=HN.out (by first | rfl | trivial);subst hq;exact HS.out⟩
theorem is_bad_calls (rb:Nat) (l p:List UInt8) (w:World) (h:At w rb l true) :
  Calls Tryz.prog 162 #[.pointer (some ⟨rb,0,none⟩),.string (mkS p)] w fun e w'=>e = .returned (.bool false)∧w = w':=by
 obtain ⟨c0,c1,f0,f1,_⟩:=h
 go_enter Tryz.func162,Tryz.ntmps162
 go_wp2_with fail
 refine (cutPrefix_calls l p _).mono ?_
 rintro e w1 ⟨rfl,rfl⟩
 generalize (if p.isPrefixOf l = true then l.drop p.length else l) = q
 generalize p.isPrefixOf l = b
 cases b
 all_goals go_wp2
 all_goals go_ret
 all_goals exact ⟨rfl,rfl⟩
theorem must_calls (rb:Nat) (l p:List UInt8) (w:World) (h:At w rb l false) :
  Calls Tryz.prog 132 #[.pointer (some ⟨rb,0,none⟩),.string (mkS p)] w fun e w'=>e = .returned (.tuple #[])∧Step w w' rb (if p.isPrefixOf l then l.drop p.length else l) (!p.isPrefixOf l):=by
 have HC:=Lib.hid (is_calls rb l p w h)
 clear h
 generalize (if p.isPrefixOf l = true then l.drop p.length else l) = q at *
 generalize p.isPrefixOf l = b at *
 go_enter Tryz.func132,Tryz.ntmps132
 go_wp2_with fail
 refine HC.out.mono ?_
 rintro e w1 ⟨rfl,hs1⟩
 have HS:=Lib.hid hs1
 obtain ⟨c0,c1,f0,f1,_⟩:=hs1.at'
 clear hs1 HC
 cases b
 ·
  go_wp2
  go_end0
  exact ⟨rfl,HS.out.set1 true⟩
 ·
  go_wp2
  go_end0
  exact ⟨rfl,HS.out⟩
theorem must_bad_calls (rb:Nat) (l p:List UInt8) (w:World) (h:At w rb l true) :
  Calls Tryz.prog 132 #[.pointer (some ⟨rb,0,none⟩),.string (mkS p)] w fun e w'=>e = .returned (.tuple #[])∧Step w w' rb l true:=by
 have HA:=Lib.hid h
 have HS:=Lib.hid (Step.refl h)
 obtain ⟨c0,c1,f0,f1,_⟩:=h
 go_enter Tryz.func132,Tryz.ntmps132
 go_wp2_with fail
 refine (is_bad_calls rb l p _ HA.out).mono ?_
 rintro e w1 ⟨rfl,rfl⟩
 go_wp2
 go_end0
 exact ⟨rfl,HS.out.set1 true⟩
theorem blanks_eq (l:List UInt8):l.dropWhile (([32,9]:List UInt8).contains ·) = blanks l:=by
 unfold blanks
 congr 1
 funext b
 unfold LinesPure.blank
 show (b == 32 || (b == 9 || false)) = _
 rw [Bool.or_false]
theorem pblanks_calls (rb:Nat) (l:List UInt8) (w:World) (h:At w rb l false) :
  Calls Tryz.prog 129 #[.pointer (some ⟨rb,0,none⟩)] w fun e w'=>e = .returned (.tuple #[])∧Step w w' rb (blanks l) false:=by
 have HS:=Lib.hid (Step.refl h)
 have hlen:=h.len
 have hc:=fun w=>trimLeft_calls l [32,9] (by decide) (by decide) w
 rw [blanks_eq] at hc
 have HC:=Lib.hid hc
 have hql:(blanks l).length ≤ l.length:=List.Sublist.length_le (List.dropWhile_sublist _)
 obtain ⟨c0,c1,f0,f1,_⟩:=h
 clear hc
 generalize blanks l = q at *
 go_enter Tryz.func129,Tryz.ntmps129
 go_wp2_with fail
 refine (HC.out _).mono ?_
 rintro e w1 ⟨rfl,hb1⟩
 have HS1:=Lib.hid (HS.out.below hb1)
 obtain ⟨c0,c1,f0,f1,_⟩:=HS1.out.at'
 clear hb1 HC
 go_wp2
 go_end0
 exact ⟨rfl,HS1.out.set0 (by omega)⟩
theorem pblanks_bad_calls (rb:Nat) (l:List UInt8) (w:World) (h:At w rb l true) :
  Calls Tryz.prog 129 #[.pointer (some ⟨rb,0,none⟩)] w fun e w'=>e = .returned (.tuple #[])∧w = w':=by
 obtain ⟨c0,c1,f0,f1,_⟩:=h
 go_enter Tryz.func129,Tryz.ntmps129
 go_wp2
 go_end0
 exact ⟨rfl,rfl⟩
theorem over_calls (rb:Nat) (l:List UInt8) (bad:Bool) (w:World) (h:At w rb l bad) :
  Calls Tryz.prog 130 #[.pointer (some ⟨rb,0,none⟩)] w fun e w'=>e = .returned (.bool (!bad && over l))∧w = w':=by
 obtain ⟨c0,c1,f0,f1,_⟩:=h
 cases bad with
 | true =>
  go_enter Tryz.func130,Tryz.ntmps130
  go_wp2
  go_ret
  exact ⟨rfl,rfl⟩
 | false =>
  cases l with
  | nil =>
   have z:=mkS_toList []
   go_enter Tryz.func130,Tryz.ntmps130
   go_wp2
   go_ret
   exact ⟨rfl,rfl⟩
  | cons b t =>
   have z1:(mkS (b :: t)).toList = b :: t:=mkS_toList _
   have z:=mkS_size (b :: t)
   have hk:0 < (mkS (b :: t)).size:=by rw [z];simp
   have hg:(mkS (b :: t))[0]'hk = b:=rfl
   have hE:(b :: t).isEmpty = false:=rfl
   have hE':¬ (b :: t) = []:=by simp
   have zl:0 < (b :: t).length:=by simp
   have HO:Hid (over (b :: t) = ((b.toNat:Int) == 35)):=Lib.hid (by
    rw [over]
    simp [List.isPrefixOf]
    rw [Bool.eq_iff_iff,beq_iff_eq,beq_iff_eq]
    constructor
    ·
     rintro rfl;rfl
    ·
     intro h;exact UInt8.toNat_inj.1 (by show 35 = b.toNat;omega))
   generalize (b :: t:List UInt8) = L at *
   obtain ⟨q,hq⟩:∃ q:Bool,((b.toNat:Int) == 35) = q:=⟨_,rfl⟩
   rw [hq] at HO
   go_enter Tryz.func130,Tryz.ntmps130
   go_wp2
   go_ret
   exact ⟨ret_bool (by rw [HO.out];rfl),rfl⟩
def digI (c:Int):Int:=if 48 ≤ c∧c ≤ 57 then c - 48 else if 97 ≤ c∧c ≤ 102 then c - 87 else if 65 ≤ c∧c ≤ 70 then c - 55 else -1
theorem digit_calls (c:Int) (h0:-1 ≤ c) (h1:c ≤ 1114111) (w:World) :
  Calls Tryz.prog 263 #[.int .i32 c] w fun e w'=>e = .returned (.int .i32 (digI c))∧w = w':=by
 have HD:Hid (digI c = if 48 ≤ c∧c ≤ 57 then c - 48 else if 97 ≤ c∧c ≤ 102 then c - 87 else if 65 ≤ c∧c ≤ 70 then c - 55 else -1):=Lib.hid rfl
 go_enter Tryz.func263,Tryz.ntmps263
 go_wp2
 all_goals go_ret
 all_goals exact ⟨ret_int (by rw [HD.out];repeat' split;all_goals omega),rfl⟩
theorem plain_calls (c:Nat) (h1:c ≤ 1114111) (w:World) :
  Calls Tryz.prog 164 #[.int .i32 (c:Int)] w fun e w'=>e = .returned (.bool (alnum c))∧w = w':=by
 have HD:Hid (alnum c = true ↔ (97 ≤ c∧c ≤ 122) ∨ (65 ≤ c∧c ≤ 90) ∨ (48 ≤ c∧c ≤ 57)):=Lib.hid (by unfold alnum;simp [or_assoc])
 go_enter Tryz.func164,Tryz.ntmps164
 go_wp2
 all_goals go_ret
 all_goals exact ⟨ret_bool (by rw [Bool.eq_iff_iff,HD.out];simp;omega),rfl⟩
end Go.Proofs.YtnplommdgfgboaaGreatDoor.Prg
namespace Go.Proofs.YtnplommdgfgboaaGreatDoor.Prg
open Go.RowKit Go.Lib B Rd Utf TermPure LinesPure Tx Env Bld
theorem hexGo_ge:∀ (n v:Nat) (l:List UInt8) (x:Nat) (r:List UInt8),hexGo n v l = some (x,r) → v ≤ x
 | 0,v,l,x,r,h=>by rw [hexGo] at h;cases h;exact Nat.le_refl _
 | n + 1,v,[],x,r,h=>by rw [hexGo] at h;cases h
 | n + 1,v,b :: l,x,r,h=>by
  rw [hexGo] at h
  cases hb:hexV b with
  | none=>rw [hb] at h;cases h
  | some d =>
   rw [hb] at h
   have:=hexGo_ge n _ l x r h
   omega
theorem rune_big (n v:Nat) (l:List UInt8) (hv:1114111 < v):rune (hexGo n v l) = none:=by
 cases h:hexGo n v l with
 | none=>rfl
 | some p =>
  obtain ⟨x,r⟩:=p
  have:=hexGo_ge n v l x r h
  rw [rune,if_neg]
  unfold Lib.validRune
  rw [decide_eq_true_iff]
  omega
theorem hexV_high (b:UInt8) (h:128 ≤ b.toNat):hexV b = none:=by rw [hexV,if_neg (by omega),if_neg (by omega),if_neg (by omega)]
theorem dig_step (q:List UInt8) (hne:q ≠ []) (hv:validD q = true) (m v:Nat) :
  (digI ((decodeL q).1:Nat) = -1∧hexGo (m + 1) v q = none) ∨ (∃ d:Nat,d ≤ 15∧digI ((decodeL q).1:Nat) = (d:Int)∧hexGo (m + 1) v q = hexGo m (v * 16 + d) (q.drop (decodeL q).2)):=by
 rcases Utf.step q hne hv with ⟨b,t,rfl,hb,hd,ht⟩ | ⟨ch,t,c,hc⟩
 ·
  rw [hd]
  dsimp only
  rw [hexGo]
  by_cases d1:48 ≤ b.toNat∧b.toNat ≤ 57
  ·
   right
   refine ⟨b.toNat - 48,by omega,?_,?_⟩
   ·
    rw [digI,if_pos (by omega)];omega
   ·
    rw [hexV,if_pos d1];rfl
  ·
   by_cases d2:97 ≤ b.toNat∧b.toNat ≤ 102
   ·
    right
    refine ⟨b.toNat - 87,by omega,?_,?_⟩
    ·
     rw [digI,if_neg (by omega),if_pos (by omega)];omega
    ·
     rw [hexV,if_neg d1,if_pos d2];rfl
   ·
    by_cases d3:65 ≤ b.toNat∧b.toNat ≤ 70
    ·
     right
     refine ⟨b.toNat - 55,by omega,?_,?_⟩
     ·
      rw [digI,if_neg (by omega),if_neg (by omega),if_pos (by omega)];omega
     ·
      rw [hexV,if_neg d1,if_neg d2,if_pos d3];rfl
    ·
     left
     refine ⟨?_,?_⟩
     ·
      rw [digI,if_neg (by omega),if_neg (by omega),if_neg (by omega)]
     ·
      rw [hexV,if_neg d1,if_neg d2,if_neg d3]
 ·
  left
  rw [hc.dec]
  have h128:=hc.ge
  refine ⟨?_,?_⟩
  ·
   rw [digI,if_neg (by dsimp only;omega),if_neg (by dsimp only;omega),if_neg (by dsimp only;omega)]
  ·
   have h2:=hc.two
   obtain ⟨b,ch',rfl⟩:∃ b ch',ch = b :: ch':=by cases ch with
    | nil=>simp at h2
    | cons b ch'=>exact ⟨b,ch',rfl⟩
   have hb:=hc.high b (by simp)
   rw [hc.eq,List.cons_append,hexGo,hexV_high b hb]
def NumPost (w:World) (rb:Nat) (r:Option (List UInt8 × List UInt8)) (e:Ending) (w':World):Prop:=match r with
 | none=>∃ (c:Int) (s:List UInt8),e = .returned (.int .i32 c)∧Step w w' rb s true
 | some (o,q)=>∃ v:Nat,e = .returned (.int .i32 (v:Int))∧v ≤ 1114111∧encodeRune (v:Int) = o∧Step w w' rb q false∧validD q = true
set_option maxRecDepth 100000 in
set_option maxHeartbeats 3200000 in
theorem number_calls (rb:Nat) (l:List UInt8) (n:Nat) (hn:n ≤ 8) (hv:validD l = true) (w:World) (he:Env w) (hrb:lowB ≤ rb) (h:At w rb l false) :
  Calls Tryz.prog 251 #[.pointer (some ⟨rb,0,none⟩),.int .i64 n] w fun e w'=>NumPost w rb (rune (hexGo n 0 l)) e w':=by
 have HS0:=Lib.hid (Step.refl h)
 have HE0:=Lib.hid he
 have HV0:=Lib.hid hv
 clear h he hv
 go_enter Tryz.func251,Tryz.ntmps251
 go_wp2
 go_loopw [5,8] (fun vx vi wr=>∃ (k v:Nat) (q:List UInt8),k ≤ n∧vi = .int .i64 k∧vx = .int .i32 v∧v ≤ 17825791∧Hid (Step w wr rb q false)∧Hid (Env wr)∧Hid (validD q = true)∧Hid (hexGo n 0 l = hexGo (n - k) v q)) (fun _ vi _=>n - (intOf vi).toNat)
 case atStart=>exact ⟨0,0,l,by omega,rfl,rfl,by omega,HS0,HE0,HV0,Lib.hid (by simp)⟩
 case round =>
  obtain ⟨k,v,q,hk,rfl,rfl,hvb,HS,HE,HV,HG⟩:=hrel
  have hv0:(0:Int) ≤ (v:Int):=by omega
  have hv1:(v:Int) ≤ 17825791:=by omega
  by_cases hlt:k < n
  ·
   have hd:decide (k < n) = true:=decide_eq_true hlt
   have ik0:(0:Int) ≤ (k:Int):=by omega
   have ik1:(k:Int) ≤ 7:=by omega
   have hnk:n - k = (n - (k + 1)) + 1:=by omega
   rw [hnk] at HG
   by_cases hne:q = []
   ·
    subst hne
    have HN:Hid (rune (hexGo n 0 l) = none):=Lib.hid (by rw [HG.out];rfl)
    clear hnk HG
    go_wp2_with fail
    refine (take_end_calls rb [] false (.inr rfl) _ HS.out.at').mono ?_
    rintro e w1 ⟨rfl,hs1⟩
    have HS1:=Lib.hid (HS.out.trans hs1)
    obtain ⟨c0,c1,f0,f1,_⟩:=HS1.out.at'
    clear hs1
    go_wp2_with fail
    refine (digit_calls (-1) (by omega) (by omega) _).mono ?_
    rintro e w2 ⟨rfl,rfl⟩
    rw [show digI (-1) = -1 from rfl]
    go_wp2
    go_ret
    rw [HN.out]
    exact ⟨_,_,rfl,HS1.out.set1 true⟩
   ·
    have hst:=dig_step q hne HV.out (n - (k + 1)) v
    obtain ⟨r1,r2,r3,r4⟩:=rune_len q hne HV.out
    have HT:=Lib.hid (take_calls rb q hne HV.out)
    have R4:=Lib.hid r4
    have HDg:=Lib.hid (fun w=>digit_calls ((decodeL q).1:Nat) (by omega) (by omega) w)
    clear hnk r1 r4 hne
    generalize (decodeL q).1 = c at *
    generalize q.drop (decodeL q).2 = q' at *
    go_wp2_with fail
    refine (HT.out _ HE.out HS.out.at').mono ?_
    rintro e w1 ⟨rfl,hs1⟩
    have HS1:=Lib.hid (HS.out.trans hs1)
    have HE1:=Lib.hid (HE.out.step hs1 hrb)
    obtain ⟨c0,c1,f0,f1,_⟩:=HS1.out.at'
    clear hs1 HT
    go_wp2_with fail
    refine (HDg.out _).mono ?_
    rintro e w2 ⟨rfl,rfl⟩
    rcases hst with ⟨g1,g2⟩ | ⟨d,g1,g2,g3⟩
    ·
     have HN:Hid (rune (hexGo n 0 l) = none):=Lib.hid (by rw [HG.out,g2];rfl)
     rw [g1]
     clear g1 g2 HG HDg
     go_wp2
     go_ret
     rw [HN.out]
     exact ⟨_,_,rfl,HS1.out.set1 true⟩
    ·
     have HG1:=Lib.hid (HG.out.trans g3)
     rw [g2]
     clear g2 g3 HG HDg
     have hd1:((d:Int) == -1) = false:=by rw [beq_eq_false_iff_ne];omega
     have i1:(0:Int) ≤ (d:Int):=by omega
     have i2:(d:Int) ≤ 15:=by omega
     by_cases hbig:v ≤ 1114111
     ·
      have e1:decide (1114111 < (v:Int)) = false:=decide_eq_false (by omega)
      have i3:(v:Int) ≤ 1114111:=by omega
      clear hv1
      go_wp2
      go_roundw
      case rel=>exact ⟨k + 1,v * 16 + d,q',by omega,by go_num,by go_num,by omega,HS1,HE1,R4,HG1⟩
      case measure=>simp [intOf];omega
     ·
      have e1:decide (1114111 < (v:Int)) = true:=decide_eq_true (by omega)
      have HN:Hid (rune (hexGo n 0 l) = none):=Lib.hid (by rw [HG1.out];exact rune_big _ _ _ (by omega))
      go_wp2
      go_ret
      rw [HN.out]
      exact ⟨_,_,rfl,HS1.out.set1 true⟩
  ·
   obtain rfl:k = n:=by omega
   rw [Nat.sub_self,hexGo] at HG
   obtain ⟨c0,c1,f0,f1,_⟩:=HS.out.at'
   go_wp2_with fail
   refine (validRune_calls (v:Int) _).mono ?_
   rintro e w2 ⟨rfl,rfl⟩
   cases hvr:Lib.validRune (v:Int) with
   | true =>
    have HN:Hid (rune (hexGo k 0 l) = some (encodeRune (v:Int),q)):=Lib.hid (by rw [HG.out,rune,if_pos hvr])
    have hle:v ≤ 1114111:=by
     unfold Lib.validRune at hvr
     rw [decide_eq_true_iff] at hvr
     omega
    clear hvr HG
    go_wp2
    go_ret
    rw [HN.out]
    exact ⟨v,rfl,hle,rfl,HS.out,HV.out⟩
   | false =>
    have HN:Hid (rune (hexGo k 0 l) = none):=Lib.hid (by rw [HG.out,rune,if_neg (by rw [hvr];decide)])
    clear hvr HG
    go_wp2
    go_ret
    rw [HN.out]
    exact ⟨_,_,rfl,HS.out.set1 true⟩
end Go.Proofs.YtnplommdgfgboaaGreatDoor.Prg
namespace Go.Proofs.YtnplommdgfgboaaGreatDoor.Prg
open Go.RowKit Go.Lib B Rd Utf TermPure LinesPure Tx Env Bld
theorem quiet_add_same {P:Program} {f:FuncId} {args:Array Value} {w:World} {a n:Nat} {v:Value}
  (h:Calls P f args (w.drewN (a + n)) fun e w'=>e = .returned v∧w' = w.drewN (a + n)) :
  Calls P f args (w.drewN (a + n)) fun e w''=>e = .returned v∧∃ m,w'' = w.drewN (a + m):=
 h.mono fun _ _ ⟨he,hm⟩=>⟨he,n,hm⟩
theorem indexByte_no:∀ (l:List UInt8) (c:UInt8),(∀ b ∈ l,b ≠ c) → indexByte l c = -1
 | [],c,h=>rfl
 | b :: l,c,h=>by
  have hb:(b == c) = false:=by rw [beq_eq_false_iff_ne];exact h b (by simp)
  have ih:=indexByte_no l c (fun x hx=>h x (by simp [hx]))
  unfold indexByte
  rw [hb,ih]
  try rfl
set_option maxRecDepth 100000 in
set_option maxHeartbeats 1600000 in
theorem indexRune_none_calls (L:List UInt8) (w:World) :
  Calls Tryz.prog 249 #[.string (mkS L),.int .i32 (-1)] w fun e w'=>e = .returned (.int .i64 (-1))∧Below w.heap.size w w':=by
 go_enter Tryz.func249,Tryz.ntmps249
 go_wp2_with fail
 refine (validRune_calls (-1) _).mono ?_
 rintro e w1 ⟨rfl,rfl⟩
 rw [show Lib.validRune (-1) = false from rfl]
 go_wp2
 go_ret
 exact ⟨rfl,Below.refl _ _⟩
set_option maxRecDepth 100000 in
set_option maxHeartbeats 1600000 in
theorem indexRune_err_calls (L:List UInt8) (hL:∀ b ∈ L,b.toNat < 128) (hlen:L.length ≤ 1000) (w:World) :
  Calls Tryz.prog 249 #[.string (mkS L),.int .i32 65533] w fun e w'=>e = .returned (.int .i64 (-1))∧Below w.heap.size w w':=by
 have z:=mkS_size L
 have HL:=Lib.hid hL
 clear hL
 go_enter Tryz.func249,Tryz.ntmps249
 go_wp2
 go_loopw [] (fun wr=>∃ pos:Nat,wr = w.iter (mkS L) pos) (fun wr=>L.length - wr.iterPos w.heap.size)
 case atStart=>exact ⟨0,rfl⟩
 case round =>
  obtain ⟨pos,rfl⟩:=hrel
  by_cases hp:pos < L.length
  ·
   have hp':pos < (mkS L).size:=by rw [z];exact hp
   obtain ⟨b,hb0⟩:∃ b,L[pos] = b:=⟨_,rfl⟩
   have hg:(mkS L)[pos]'hp' = b:=(Rd.mkS_get L pos hp' hp).trans hb0
   have hb:b.toNat < 128:=by rw [← hb0];exact HL.out _ (List.getElem_mem hp)
   have hnx:∀ ty,(Instr.next (.pointer (some ⟨w.heap.size,0,none⟩)) true ty).run Tryz.prog (w.iter (mkS L) pos) = .ok (.tuple #[.bool true,.int .i64 pos,.int .i32 (b.toNat:Int)]) (w.iter (mkS L) (pos + 1)):=fun ty=>by
    have:=run_next_ascii (P:=Tryz.prog) w (mkS L) pos ty hp' (by rw [hg];exact hb)
    rw [hg] at this
    exact this
   have hne:((b.toNat:Int) == 65533) = false:=by rw [beq_eq_false_iff_ne];omega
   clear hb0 hg hb
   go_wp2
   go_roundw
   case rel=>exact ⟨pos + 1,rfl⟩
   case measure=>simp;omega
  ·
   have hnx:∀ ty,(Instr.next (.pointer (some ⟨w.heap.size,0,none⟩)) true ty).run Tryz.prog (w.iter (mkS L) pos) = .ok (.tuple #[.bool false]) (w.iter (mkS L) pos):=fun ty=>run_next_end w (mkS L) pos ty (by rw [z];exact hp)
   go_wp2
   go_ret
   exact ⟨rfl,(Below.refl _ _).alloc (Nat.le_refl _) _⟩
set_option maxRecDepth 100000 in
set_option maxHeartbeats 1600000 in
theorem indexRune_high_calls (L:List UInt8) (hL:∀ b ∈ L,b.toNat < 128) (hlen:L.length ≤ 1000) (h4:4 ≤ L.length) (ch:List UInt8) (n:Nat) (h128:128 ≤ n) (hn:n ≤ 1114111) (hv:Lib.validRune (n:Int) = true) (he:encodeRune (n:Int) = ch) (hne:n ≠ 65533) (hhigh:∀ b ∈ ch,128 ≤ b.toNat) (h2:2 ≤ ch.length) (hc4:ch.length ≤ 4) (w:World) :
  Calls Tryz.prog 249 #[.string (mkS L),.int .i32 (n:Int)] w fun e w'=>e = .returned (.int .i64 (-1))∧Below w.heap.size w w':=by
 have z:=mkS_size L
 have henc:Utf8.encode (n:Int) = mkS ch:=by rw [encode_eq n hv,he]
 obtain ⟨k,hk⟩:∃ k,ch.length = k + 1:=⟨ch.length - 1,by omega⟩
 have zc:(mkS ch).size = k + 1:=by rw [mkS_size,hk]
 have hk3:k ≤ 3:=by omega
 have hkL:k < L.length:=by omega
 have hkc:k < ch.length:=by omega
 have e1:((n:Int) == 65533) = false:=by rw [beq_eq_false_iff_ne];omega
 have e2:decide ((n:Int) < 128) = false:=decide_eq_false (by omega)
 have i0:(0:Int) ≤ (n:Int):=by omega
 obtain ⟨b1,hb1⟩:∃ b,L[k] = b:=⟨_,rfl⟩
 obtain ⟨b2,hb2⟩:∃ b,ch[k] = b:=⟨_,rfl⟩
 have hk1:k < (mkS L).size:=by rw [z];exact hkL
 have hk2:k < (mkS ch).size:=by rw [zc];omega
 have hg1:(mkS L)[k]'hk1 = b1:=(Rd.mkS_get L k hk1 hkL).trans hb1
 have hg2:(mkS ch)[k]'hk2 = b2:=(Rd.mkS_get ch k hk2 hkc).trans hb2
 have hl1:b1.toNat < 128:=by rw [← hb1];exact hL _ (List.getElem_mem hkL)
 have hl2:128 ≤ b2.toNat:=by rw [← hb2];exact hhigh _ (List.getElem_mem hkc)
 have hdiff:((b1.toNat:Int) != (b2.toNat:Int)) = true:=by rw [bne_iff_ne];omega
 have hx:(mkS L).extract (k + 1) L.length = mkS (L.drop (k + 1)):=by rw [mkS_extract,List.take_of_length_le (by simp)]
 have HIB:∀ W,Calls Tryz.prog 261 #[.string (mkS (L.drop (k + 1))),.int .u8 (b2.toNat:Int)] W fun e w'=>e = .returned (.int .i64 (-1))∧w' = W:=fun W=>by
  refine (Tryz.strings_IndexByte (mkS (L.drop (k + 1))) (b2.toNat:Int) W).mono ?_
  rintro e w' ⟨h1,h2⟩
  refine ⟨?_,h2⟩
  rw [h1]
  have:indexByte (mkS (L.drop (k + 1))).data.toList ((b2.toNat:Int)).toNat.toUInt8 = -1:=by
   apply indexByte_no
   intro b hb e
   have hb':b ∈ L:=List.mem_of_mem_drop hb
   have:=hL b hb'
   have e2:b.toNat = b2.toNat:=by rw [e];simp
   omega
  rw [this]
 have HI:=Lib.hid HIB
 have zq:=mkS_size (L.drop (k + 1))
 have hi1:(k:Int) + 1 ≤ (L.length:Int):=by omega
 have hi2:(k:Int) < (L.length:Int):=by omega
 have hi3:(0:Int) ≤ (k:Int):=by omega
 have hd:decide (k < L.length) = true:=decide_eq_true hkL
 have hvr:=Lib.hid hv
 clear hL he hne hhigh hb1 hb2 hl1 hl2 HIB hv h128 hn h2 hc4 hk hkc
 generalize L.drop (k + 1) = q at *
 go_enter Tryz.func249,Tryz.ntmps249
 go_wp2_with fail
 refine (validRune_calls (n:Int) _).mono ?_
 rintro e w1 ⟨rfl,rfl⟩
 rw [hvr.out]
 go_wp2
 go_step3
 go_wp2
 go_loopw [9,10] (fun v9 v10 wr=>v9 = .int .i64 k∧v10 = .int .i64 0∧wr = w) (fun _ _ _=>0)
 case atStart=>exact ⟨by go_num,rfl,rfl⟩
 case round =>
  obtain ⟨rfl,rfl,rfl⟩:=hrel
  go_wp2
  go_step3
  go_wp2
  go_quiet (fail)
  go_wp2
  have hw1:IntKind.i64.wrap ((k:Int) + 1) = (k:Int) + 1:=IntWalk.i64_in _ (by omega)
  have hw2:(0:Int) ≤ (k:Int) + 1:=by omega
  have hw3:((k:Int) + 1).toNat = k + 1:=by omega
  have hw4:(k:Int) < (k:Int) + 1:=by omega
  have hw5:(k:Int) < ((k + 1:Nat):Int):=by omega
  have hw6:k < k + 1:=by omega
  go_quiet ((go_at_call 261;exact quiet_add_same (HI.out _)))
  go_wp2
  rw [Exit.noGoto_ret]
  simp (config:={ zetaDelta:=true }) only [Exit.inBlock,Exit.noGoto_ret,Exit.then]
  go_ret
  exact ⟨rfl,bel_drewN (Below.refl _ _) _⟩
def escL:List UInt8:=[116,98,110,114,102,34,39,92]
def escTT:List UInt8:=[9,8,10,13,12,34,39,92]
theorem escL_index:∀ n:Fin 256,(indexByte escL (UInt8.ofNat n.val) = -1∧escV (UInt8.ofNat n.val) = none) ∨ (∃ k:Fin 8,indexByte escL (UInt8.ofNat n.val) = (k.val:Int)∧escV (UInt8.ofNat n.val) = escTT[k.val]?):=by decide +kernel
theorem escL_byte (b:UInt8):(indexByte escL b = -1∧escV b = none) ∨ (∃ k:Nat,∃ hk:k < 8,indexByte escL b = (k:Int)∧escV b = some (escTT[k]'hk)):=by
 have h:=escL_index ⟨b.toNat,b.toNat_lt⟩
 rw [show UInt8.ofNat b.toNat = b from by simp] at h
 rcases h with h | ⟨⟨k,hk⟩,h1,h2⟩
 ·
  exact .inl h
 ·
  exact .inr ⟨k,hk,h1,by rw [h2];exact List.getElem?_eq_getElem hk⟩
theorem indexRune_ascii_calls (b:UInt8) (hb:b.toNat < 128) (w:World) :
  Calls Tryz.prog 249 #[.string (mkS escL),.int .i32 (b.toNat:Int)] w fun e w'=>e = .returned (.int .i64 (indexByte escL b))∧Below w.heap.size w w':=by
 refine (Tryz.strings_IndexRune_ascii (mkS escL) (b.toNat:Int) w (by omega) (by omega)).mono ?_
 rintro e w' ⟨h1,h2⟩
 refine ⟨?_,by rw [h2];exact Below.refl _ _⟩
 rw [h1]
 have:((b.toNat:Int)).toNat.toUInt8 = b:=by simp
 rw [this]
 try rfl
theorem esc_sign (b:UInt8) (t:List UInt8) (lit:Bool) (h1:b.toNat ≠ 117) (h2:b.toNat ≠ 85):esc lit (b :: t) = if lit then (match escV b with
   | some c=>some ([c],t)
   | none=>none) else none:=by
 rw [esc,if_neg (fun e=>h1 (by rw [e];rfl)),if_neg (fun e=>h2 (by rw [e];rfl))]
 try rfl
theorem escV_high (b:UInt8) (h:128 ≤ b.toNat):escV b = none:=by
 unfold escV
 repeat' split
 all_goals first | rfl | (rename_i e;rw [e] at h;exact absurd h (by decide))
theorem esc_high (b:UInt8) (t:List UInt8) (lit:Bool) (h:128 ≤ b.toNat):esc lit (b :: t) = none:=by
 rw [esc_sign b t lit (by omega) (by omega),escV_high b h]
 cases lit <;> rfl
theorem indexRune_any_calls (l:List UInt8) (hne:l ≠ []) (hv:validD l = true) (w:World) :
  Calls Tryz.prog 249 #[.string (mkS escL),.int .i32 ((decodeL l).1:Nat)] w fun e w'=>(∃ i:Int,e = .returned (.int .i64 i)∧((i = -1∧128 ≤ (decodeL l).1) ∨ ∃ b t,l = b :: t∧b.toNat < 128∧i = indexByte escL b))∧Below w.heap.size w w':=by
 rcases Utf.step l hne hv with ⟨b,t,rfl,hb,hd,ht⟩ | ⟨ch,t,c,hc⟩
 ·
  rw [hd]
  refine (indexRune_ascii_calls b hb w).mono ?_
  rintro e w' ⟨h1,h2⟩
  exact ⟨⟨_,h1,.inr ⟨b,t,rfl,hb,rfl⟩⟩,h2⟩
 ·
  rw [hc.dec]
  dsimp only
  have hL:∀ b ∈ escL,b.toNat < 128:=by decide
  by_cases hne2:c = 65533
  ·
   subst hne2
   refine (indexRune_err_calls escL hL (by decide) w).mono ?_
   rintro e w' ⟨h1,h2⟩
   exact ⟨⟨_,h1,.inl ⟨rfl,hc.ge⟩⟩,h2⟩
  ·
   refine (indexRune_high_calls escL hL (by decide) (by decide) ch c hc.ge hc.le hc.valid hc.enc hne2 hc.high hc.two hc.four w).mono ?_
   rintro e w' ⟨h1,h2⟩
   exact ⟨⟨_,h1,.inl ⟨rfl,hc.ge⟩⟩,h2⟩
set_option maxRecDepth 100000 in
set_option maxHeartbeats 3200000 in
theorem escape_calls (rb:Nat) (l:List UInt8) (lit:Bool) (hv:validD l = true) (w:World) (he:Env w) (hrb:lowB ≤ rb) (h:At w rb l false) :
  Calls Tryz.prog 235 #[.pointer (some ⟨rb,0,none⟩),.bool lit] w fun e w'=>NumPost w rb (esc lit l) e w':=by
 by_cases hne:l = []
 ·
  subst hne
  have HA:=Lib.hid h
  clear hv
  go_enter Tryz.func235,Tryz.ntmps235
  go_wp2_with fail
  refine (take_end_calls rb [] false (.inr rfl) _ HA.out).mono ?_
  rintro e w1 ⟨rfl,hs1⟩
  have HS1:=Lib.hid hs1
  clear hs1
  go_wp2_with fail
  refine (indexRune_none_calls escL _).mono ?_
  rintro e w2 ⟨rfl,hb2⟩
  have HS2:=Lib.hid (HS1.out.below hb2)
  obtain ⟨c0,c1,f0,f1,_⟩:=HS2.out.at'
  clear hb2
  cases lit
  ·
   go_wp2
   go_ret
   exact ⟨_,_,rfl,HS2.out.set1 true⟩
  ·
   go_wp2
   go_ret
   exact ⟨_,_,rfl,HS2.out.set1 true⟩
 ·
  have HA:=Lib.hid h
  have HE:=Lib.hid he
  obtain ⟨r1,r2,r3,r4⟩:=rune_len l hne hv
  have HT:=Lib.hid (take_calls rb l hne hv)
  have HI:=Lib.hid (indexRune_any_calls l hne hv)
  have HD:Hid (∀ b t,l = b :: t → b.toNat < 128 → (decodeL l).1 = b.toNat∧l.drop (decodeL l).2 = t):=Lib.hid (fun b t e hb=>by
   subst e
   rw [decodeL_ascii b t hb]
   exact ⟨rfl,rfl⟩)
  have HH:Hid (128 ≤ (decodeL l).1 → esc lit l = none):=Lib.hid (fun h=>by
   cases l with
   | nil=>rfl
   | cons b t =>
    by_cases hb:b.toNat < 128
    ·
     rw [decodeL_ascii b t hb] at h
     dsimp only at h
     omega
    ·
     exact esc_high b t lit (by omega))
  have R4:=Lib.hid r4
  have i0:((decodeL l).1:Int) ≤ 1114111:=by omega
  have i1:(0:Int) ≤ ((decodeL l).1:Int):=by omega
  clear h he hv r1 r3 r4 r2 hne
  generalize (decodeL l).1 = c at *
  generalize l.drop (decodeL l).2 = q at *
  go_enter Tryz.func235,Tryz.ntmps235
  go_wp2_with fail
  refine (HT.out _ HE.out HA.out).mono ?_
  rintro e w1 ⟨rfl,hs1⟩
  have HS1:=Lib.hid hs1
  have HE1:=Lib.hid (HE.out.step hs1 hrb)
  clear hs1 HT
  go_wp2_with fail
  refine (HI.out _).mono ?_
  rintro e w2 ⟨⟨i,rfl,hi⟩,hb2⟩
  have HS2:=Lib.hid (HS1.out.below hb2)
  have HE2:=Lib.hid (HE1.out.below hb2)
  obtain ⟨c0,c1,f0,f1,_⟩:=HS2.out.at'
  clear hb2 HI
  rcases hi with ⟨rfl,h128⟩ | ⟨b,t,hl,hb,rfl⟩
  ·
   have HN:=Lib.hid (HH.out h128)
   have e1:((c:Int) == 117) = false:=by rw [beq_eq_false_iff_ne];omega
   have e2:((c:Int) == 85) = false:=by rw [beq_eq_false_iff_ne];omega
   clear h128 HH HD
   cases lit
   ·
    go_wp2
    go_ret
    rw [HN.out]
    exact ⟨_,_,rfl,HS2.out.set1 true⟩
   ·
    go_wp2
    go_ret
    rw [HN.out]
    exact ⟨_,_,rfl,HS2.out.set1 true⟩
  ·
   obtain ⟨hc,hq⟩:=HD.out b t hl hb
   subst hc hq
   have HL:=Lib.hid hl
   clear hl HD HH
   by_cases h117:b.toNat = 117
   ·
    have HN:Hid (esc lit l = rune (hexGo 4 0 q)):=Lib.hid (by
     rw [HL.out,show b = 117 from UInt8.toNat_inj.1 h117];rfl)
    have e1:((b.toNat:Int) == 117) = true:=by rw [beq_iff_eq];omega
    clear h117
    go_wp2_with fail
    refine (number_calls rb q 4 (by decide) R4.out _ HE2.out hrb HS2.out.at').mono ?_
    intro e w3 hp
    cases hr:rune (hexGo 4 0 q) with
    | none =>
     rw [hr] at hp
     obtain ⟨c,s,rfl,hs3⟩:=hp
     have HS3:=Lib.hid (HS2.out.trans hs3)
     have HN2:=Lib.hid (HN.out.trans hr)
     clear hr hs3 HN
     go_wp2
     go_ret
     rw [HN2.out]
     exact ⟨_,_,rfl,HS3.out⟩
    | some p =>
     obtain ⟨o,q'⟩:=p
     rw [hr] at hp
     obtain ⟨v,rfl,hv1,hv2,hs3,hv3⟩:=hp
     have HS3:=Lib.hid (HS2.out.trans hs3)
     have HV:=Lib.hid (And.intro hv2 hv3)
     have HN2:=Lib.hid (HN.out.trans hr)
     clear hr hs3 HN hv2 hv3
     go_wp2
     go_ret
     rw [HN2.out]
     exact ⟨v,rfl,hv1,HV.out.1,HS3.out,HV.out.2⟩
   ·
    have e1:((b.toNat:Int) == 117) = false:=by rw [beq_eq_false_iff_ne];omega
    by_cases h85:b.toNat = 85
    ·
     have HN:Hid (esc lit l = rune (hexGo 8 0 q)):=Lib.hid (by
      rw [HL.out,show b = 85 from UInt8.toNat_inj.1 h85];rfl)
     have e2:((b.toNat:Int) == 85) = true:=by rw [beq_iff_eq];omega
     clear h85 h117
     go_wp2_with fail
     refine (number_calls rb q 8 (by decide) R4.out _ HE2.out hrb HS2.out.at').mono ?_
     intro e w3 hp
     cases hr:rune (hexGo 8 0 q) with
     | none =>
      rw [hr] at hp
      obtain ⟨c,s,rfl,hs3⟩:=hp
      have HS3:=Lib.hid (HS2.out.trans hs3)
      have HN2:=Lib.hid (HN.out.trans hr)
      clear hr hs3 HN
      go_wp2
      go_ret
      rw [HN2.out]
      exact ⟨_,_,rfl,HS3.out⟩
     | some p =>
      obtain ⟨o,q'⟩:=p
      rw [hr] at hp
      obtain ⟨v,rfl,hv1,hv2,hs3,hv3⟩:=hp
      have HS3:=Lib.hid (HS2.out.trans hs3)
      have HV:=Lib.hid (And.intro hv2 hv3)
      have HN2:=Lib.hid (HN.out.trans hr)
      clear hr hs3 HN hv2 hv3
      go_wp2
      go_ret
      rw [HN2.out]
      exact ⟨v,rfl,hv1,HV.out.1,HS3.out,HV.out.2⟩
    ·
     have e2:((b.toNat:Int) == 85) = false:=by rw [beq_eq_false_iff_ne];omega
     have HN:Hid (esc lit l = if lit then (match escV b with
      | some c=>some ([c],q)
      | none=>none) else none):=Lib.hid (by rw [HL.out];exact esc_sign b q lit h117 h85)
     have EB:=escL_byte b
     clear h117 h85 HL
     cases lit with
     | false =>
      generalize indexByte escL b = i at *
      clear EB
      go_wp2
      go_ret
      rw [HN.out]
      exact ⟨_,_,rfl,HS2.out.set1 true⟩
     | true =>
      rcases EB with ⟨g1,g2⟩ | ⟨k,hk,g1,g2⟩
      ·
       have HN2:Hid (esc true l = none):=Lib.hid (by rw [HN.out,g2];rfl)
       rw [g1]
       clear g1 g2 HN
       go_wp2
       go_ret
       rw [HN2.out]
       exact ⟨_,_,rfl,HS2.out.set1 true⟩
      ·
       have HN2:Hid (esc true l = some ([escTT[k]'hk],q)):=Lib.hid (by rw [HN.out,g2];rfl)
       rw [g1]
       have hd0:decide ((0:Int) ≤ (k:Int)) = true:=decide_eq_true (by omega)
       have ik0:(0:Int) ≤ (k:Int):=by omega
       have ik8:(k:Int) < 8:=by omega
       have HA9:Hid (∀ j:Nat,(hj:j < 8) → (escTT[j]'hj).toNat < 128):=Lib.hid (by decide)
       clear g1 g2 HN
       go_wp2
       go_ret
       rw [HN2.out]
       refine ⟨(escTT[k]'hk).toNat,(ret_int (by have:=HA9.out k hk;unfold wrap32;omega):Ending.returned (.int .i32 (wrap32 ((escTT[k]'hk).toNat:Int))) = .returned (.int .i32 ((escTT[k]'hk).toNat:Int))),by have:=HA9.out k hk;omega,?_,HS2.out,R4.out⟩
       have h128:=HA9.out k hk
       rw [encodeRune,encodeRuneZ_one (by omega) (by omega)]
       simp
end Go.Proofs.YtnplommdgfgboaaGreatDoor.Prg
namespace Go.Proofs.YtnplommdgfgboaaGreatDoor.Prg
open Go.RowKit Go.Lib B Rd Utf TermPure LinesPure Tx Env Bld
theorem up_chunk (stop:UInt8) (hs:stop.toNat < 128) (lit nl:Bool) (t:List UInt8):∀ ch:List UInt8,(∀ b ∈ ch,128 ≤ b.toNat) → up stop lit nl (ch ++ t) = (up stop lit nl t).map fun x=>(ch ++ x.1,x.2)
 | [],_=>by simp
 | b :: ch,h=>by
  have hb:=h b (by simp)
  have ih:=up_chunk stop hs lit nl t ch (fun x hx=>h x (by simp [hx]))
  have h1:b ≠ stop:=fun e=>by rw [e] at hb;omega
  have h2:b ≠ 92:=fun e=>by rw [e] at hb;exact absurd hb (by decide)
  have h3:¬ (nl = true∧(b = 10 ∨ b = 13)):=by
   rintro ⟨_,e | e⟩
   ·
    rw [e] at hb;exact absurd hb (by decide)
   ·
    rw [e] at hb;exact absurd hb (by decide)
  rw [List.cons_append,up_other stop lit nl b _ h1 h2 h3,ih,Option.map_map]
  congr 1
def UntPost (w:World) (rb:Nat) (r:Option (List UInt8 × List UInt8)) (e:Ending) (w':World):Prop:=match r with
 | none=>∃ (o s:List UInt8),e = .returned (.string (mkS o))∧Step w w' rb s true
 | some (o,q)=>e = .returned (.string (mkS o))∧Step w w' rb q false∧validD q = true
structure Rnd (w wr:World) (rb:Nat) (l q out:List UInt8) (stop:UInt8) (lit:Bool):Prop where
 step:Step w wr rb q false
 bld:Bld w.heap.size w.heap.size out wr
 env:Env wr
 valid:validD q = true
 len:out.length + q.length ≤ l.length
 says:up stop lit lit l = (up stop lit lit q).map fun x=>(out ++ x.1,x.2)
set_option maxRecDepth 100000 in
set_option maxHeartbeats 6400000 in
theorem until_calls (rb:Nat) (l:List UInt8) (stop:UInt8) (hst:stop.toNat < 128) (hs92:stop ≠ 92) (lit:Bool) (hv:validD l = true) (w:World) (he:Env w) (hrb:lowB ≤ rb) (h:At w rb l false) :
  Calls Tryz.prog 205 #[.pointer (some ⟨rb,0,none⟩),.int .i32 (stop.toNat:Int),.bool lit] w fun e w'=>UntPost w rb (up stop lit lit l) e w':=by
 have hlt:=h.lt
 have hlen:=h.len
 have hlow:=he.low
 have hR0:Hid (Rnd w (w.alloc (.cells #[.pointer none,.slice none 0 0] 161)) rb l l [] stop lit):=
  Lib.hid ⟨(Step.refl h).alloc _,Bld.new w,he.below (bel_alloc (Below.refl _ _) _),hv,by simp,by simp⟩
 clear h he hv
 go_enter Tryz.func205,Tryz.ntmps205
 go_wp2
 go_step3
 go_wp2
 go_step3
 go_wp2
 go_loopg [] (l.length + 1) (fun n wr=>∃ (q out:List UInt8),Hid (n = q.length + 1)∧Hid (Rnd w wr rb l q out stop lit))
 case atStart=>exact ⟨l,[],Lib.hid rfl,hR0⟩
 case round =>
  obtain ⟨q,out,HN,HR⟩:=hrel
  have hbl:=HR.out.len
  obtain ⟨c0,c1,f0,f1,hql⟩:=HR.out.step.at'
  by_cases hne:q = []
  ·
   subst hne
   have HO:Hid (up stop lit lit l = none):=Lib.hid (HR.out.says.trans (by rw [up_nil];rfl))
   go_wp2_with fail
   refine (take_end_calls rb [] false (.inr rfl) _ HR.out.step.at').mono ?_
   rintro e w1 ⟨rfl,hs1⟩
   have HS1:=Lib.hid (HR.out.step.trans hs1)
   have HB1:=Lib.hid (HR.out.bld.grown hs1.grown hlt)
   have HZ1:w.heap.size ≤ w1.heap.size:=HS1.out.grown.size
   have e1:((-1:Int) == (stop.toNat:Int)) = false:=by rw [beq_eq_false_iff_ne];omega
   obtain ⟨c0,c1,f0,f1,_⟩:=HS1.out.at'
   clear hs1
   cases lit
   all_goals
    go_wp2_with fail
    refine (string_calls _ _ out _ HB1.out HZ1).mono ?_
    rintro e w2 ⟨rfl,_,hb2⟩
    have HS2:=Lib.hid (HS1.out.belowB hb2 hlt)
    clear hb2
    go_wp2
    go_ret
    rw [HO.out]
    exact ⟨_,_,rfl,HS2.out⟩
  ·
   obtain ⟨r1,r2,r3,r4⟩:=rune_len q hne HR.out.valid
   have HT:=Lib.hid (take_calls rb q hne HR.out.valid _ HR.out.env HR.out.step.at')
   have hst2:=Utf.step q hne HR.out.valid
   rcases hst2 with ⟨b,t,rfl,hb,hd,ht⟩ | ⟨ch,t,c,hc⟩
   ·
    rw [hd] at HT
    simp only [List.drop_succ_cons,List.drop_zero] at HT
    have HV:=Lib.hid ht
    have HD:=Lib.hid hd
    have hNt:Hid (t.length + 1 < gk):=Lib.hid (by rw [HN.out];simp)
    have hbt:out.length + t.length + 1 ≤ l.length:=by simp at hbl;omega
    clear r1 r2 r3 r4 hne hd ht
    go_wp2_with fail
    refine HT.out.mono ?_
    rintro e w1 ⟨rfl,hs1⟩
    have HS1:=Lib.hid (HR.out.step.trans hs1)
    have HB1:=Lib.hid (HR.out.bld.grown hs1.grown hlt)
    have HE1:=Lib.hid (HR.out.env.step hs1 hrb)
    have HZ1:w.heap.size ≤ w1.heap.size:=HS1.out.grown.size
    have HU:=Lib.hid HR.out.says
    clear c0 c1 f0 f1 hs1 HT HR
    obtain ⟨c0,c1,f0,f1,_⟩:=HS1.out.at'
    by_cases b1:b = stop
    ·
     subst b1
     have HO:Hid (up b lit lit l = some (out,t)):=Lib.hid (HU.out.trans (by rw [up_stop];simp))
     clear HU
     go_wp2_with fail
     refine (string_calls _ _ out _ HB1.out HZ1).mono ?_
     rintro e w9 ⟨rfl,_,hb9⟩
     have HS9:=Lib.hid (HS1.out.belowB hb9 hlt)
     clear hb9
     go_wp2
     go_ret
     rw [HO.out]
     exact ⟨rfl,HS9.out,HV.out⟩
    ·
     have e1:((b.toNat:Int) == (stop.toNat:Int)) = false:=by
      rw [beq_eq_false_iff_ne]
      intro e
      exact b1 (UInt8.toNat_inj.1 (by omega))
     by_cases b2:b = 92
     ·
      have e2:((b.toNat:Int) == 92) = true:=by rw [beq_iff_eq,b2];rfl
      have HE0:=Lib.hid (up_esc_none stop lit lit b t b1 b2)
      have HEs:=Lib.hid (fun o r=>up_esc stop lit lit b t o r b1 b2)
      clear b1 b2
      go_wp2_with fail
      refine (escape_calls rb t lit HV.out _ HE1.out hrb HS1.out.at').mono ?_
      intro e w2 hp
      cases hr:esc lit t with
      | none =>
       rw [hr] at hp
       obtain ⟨c,s,rfl,hs2⟩:=hp
       have HO:Hid (up stop lit lit l = none):=Lib.hid (HU.out.trans (by rw [HE0.out hr];rfl))
       have HS2:=Lib.hid (HS1.out.trans hs2)
       have HB2:=Lib.hid (HB1.out.grown hs2.grown hlt)
       have HZ2:w.heap.size ≤ w2.heap.size:=HS2.out.grown.size
       clear c0 c1 f0 f1 hs2 hr HU
       obtain ⟨c0,c1,f0,f1,_⟩:=HS2.out.at'
       go_wp2_with fail
       refine (string_calls _ _ out _ HB2.out HZ2).mono ?_
       rintro e w9 ⟨rfl,_,hb9⟩
       have HS9:=Lib.hid (HS2.out.belowB hb9 hlt)
       clear hb9
       go_wp2
       go_ret
       rw [HO.out]
       exact ⟨_,_,rfl,HS9.out⟩
      | some p =>
       obtain ⟨o,r⟩:=p
       rw [hr] at hp
       obtain ⟨v,rfl,hv1,hv2,hs2,hv3⟩:=hp
       have hlr:=esc_len2 lit t o r hr
       have HO:=Lib.hid (HU.out.trans (by rw [HEs.out o r hr,Option.map_map]))
       have HS2:=Lib.hid (HS1.out.trans hs2)
       have HB2:=Lib.hid (HB1.out.grown hs2.grown hlt)
       have HE2:=Lib.hid (HE1.out.step hs2 hrb)
       have HZ2:w.heap.size ≤ w2.heap.size:=HS2.out.grown.size
       have HV2:=Lib.hid hv2
       have HV3:=Lib.hid hv3
       clear c0 c1 f0 f1 hs2 hr HU hv2 hv3
       obtain ⟨c0,c1,f0,f1,_⟩:=HS2.out.at'
       go_wp2_with fail
       refine (writeRune_calls _ _ out v (by omega) _ HB2.out (by omega) HZ2).mono ?_
       rintro e w8 ⟨⟨v8,rfl⟩,hb8,hbel8⟩
       have HR8:Hid (Rnd w w8 rb l r (out ++ o) stop lit):=Lib.hid ⟨HS2.out.belowB hbel8 hlt,HV2.out ▸ hb8,HE2.out.belowB hbel8 hlow,HV3.out,by simp;omega,HO.out.trans (by congr 1;funext x;simp)⟩
       clear hb8 hbel8
       go_wp2
       go_roundg (r.length + 1)
       case measure=>have:=hNt.out;omega
       case rel=>exact ⟨r,_,Lib.hid rfl,HR8⟩
     ·
      have e2:((b.toNat:Int) == 92) = false:=by
       rw [beq_eq_false_iff_ne]
       intro e
       exact b2 (UInt8.toNat_inj.1 (by show b.toNat = 92;omega))
      by_cases b3:lit = true∧(b = 10 ∨ b = 13)
      ·
       obtain ⟨hl1,b3⟩:=b3
       subst hl1
       have HO:Hid (up stop true true l = none):=Lib.hid (HU.out.trans (by rw [up_line stop true true b t b1 b2 ⟨rfl,b3⟩];rfl))
       have h3:((b.toNat:Int) == 10) = true ∨ ((b.toNat:Int) == 10) = false∧((b.toNat:Int) == 13) = true:=by
        rcases b3 with rfl | rfl
        ·
         exact .inl rfl
        ·
         exact .inr ⟨rfl,rfl⟩
       clear b1 b2 b3 HU
       have HS3:=Lib.hid (HS1.out.set1 true)
       have HB3:=Lib.hid (HB1.out.grown (Rd.grown_setCell w1 ⟨rb,1,none⟩ (.bool true)) hlt)
       rcases h3 with h3 | ⟨h3,h4⟩
       all_goals
        go_wp2_with fail
        refine (string_calls _ _ out _ HB3.out (by rw [World.size_setCell];exact HZ1)).mono ?_
        rintro e w9 ⟨rfl,_,hb9⟩
        have HS9:=Lib.hid (HS3.out.belowB hb9 hlt)
        clear hb9
        go_wp2
        go_ret
        rw [HO.out]
        exact ⟨_,_,rfl,HS9.out⟩
      ·
       have HO:=Lib.hid (HU.out.trans (by rw [up_other stop lit lit b t b1 b2 b3,Option.map_map]))
       have henc:Hid (encodeRune (b.toNat:Int) = [b]):=Lib.hid (by
        rw [encodeRune,encodeRuneZ_one (by omega) (by omega)]
        simp)
       have h3:lit = false ∨ (lit = true∧((b.toNat:Int) == 10) = false∧((b.toNat:Int) == 13) = false):=by
        cases lit with
        | false=>exact .inl rfl
        | true =>
         refine .inr ⟨rfl,?_,?_⟩
         ·
          rw [beq_eq_false_iff_ne];intro e;exact b3 ⟨rfl,.inl (UInt8.toNat_inj.1 (by show b.toNat = 10;omega))⟩
         ·
          rw [beq_eq_false_iff_ne];intro e;exact b3 ⟨rfl,.inr (UInt8.toNat_inj.1 (by show b.toNat = 13;omega))⟩
       clear b1 b2 b3 HU
       rcases h3 with rfl | ⟨rfl,h3,h4⟩
       all_goals
        go_wp2_with fail
        refine (writeRune_calls _ _ out b.toNat (by omega) _ HB1.out (by omega) HZ1).mono ?_
        rintro e w8 ⟨⟨v8,rfl⟩,hb8,hbel8⟩
        have HR8:Hid (Rnd w w8 rb l t (out ++ [b]) stop _):=Lib.hid ⟨HS1.out.belowB hbel8 hlt,henc.out ▸ hb8,HE1.out.belowB hbel8 hlow,HV.out,by simp;omega,HO.out.trans (by congr 1;funext x;simp)⟩
        clear hb8 hbel8
        go_wp2
        go_roundg (t.length + 1)
        case measure=>have:=hNt.out;omega
        case rel=>exact ⟨t,_,Lib.hid rfl,HR8⟩
   ·
    rw [hc.dec] at HT
    dsimp only at HT
    rw [hc.eq,List.drop_left] at HT
    have HC:=Lib.hid hc
    have c128:=hc.ge
    have cle:=hc.le
    have hc2:=hc.two
    have hc4:=hc.four
    have hqe:q.length = ch.length + t.length:=by rw [hc.eq,List.length_append]
    have hNt:Hid (t.length + 1 < gk):=Lib.hid (by rw [HN.out];omega)
    have hbt:out.length + ch.length + t.length ≤ l.length:=by omega
    have HO:Hid (up stop lit lit l = (up stop lit lit t).map fun x=>((out ++ ch) ++ x.1,x.2)):=Lib.hid (HR.out.says.trans (by
     rw [hc.eq,up_chunk stop hst lit lit t ch hc.high,Option.map_map]
     congr 1
     funext x
     simp))
    clear r1 r2 r3 r4 hne hc hqe
    go_wp2_with fail
    refine HT.out.mono ?_
    rintro e w1 ⟨rfl,hs1⟩
    have HS1:=Lib.hid (HR.out.step.trans hs1)
    have HB1:=Lib.hid (HR.out.bld.grown hs1.grown hlt)
    have HE1:=Lib.hid (HR.out.env.step hs1 hrb)
    have HZ1:w.heap.size ≤ w1.heap.size:=HS1.out.grown.size
    clear c0 c1 f0 f1 hs1 HT HR
    obtain ⟨c0,c1,f0,f1,_⟩:=HS1.out.at'
    have e1:((c:Int) == (stop.toNat:Int)) = false:=by rw [beq_eq_false_iff_ne];omega
    have e2:((c:Int) == 92) = false:=by rw [beq_eq_false_iff_ne];omega
    have e3:((c:Int) == 10) = false:=by rw [beq_eq_false_iff_ne];omega
    have e4:((c:Int) == 13) = false:=by rw [beq_eq_false_iff_ne];omega
    cases lit
    all_goals
     go_wp2_with fail
     refine (writeRune_calls _ _ out c (by omega) _ HB1.out (by omega) HZ1).mono ?_
     rintro e w8 ⟨⟨v8,rfl⟩,hb8,hbel8⟩
     have HR8:Hid (Rnd w w8 rb l t (out ++ ch) stop _):=Lib.hid ⟨HS1.out.belowB hbel8 hlt,HC.out.enc ▸ hb8,HE1.out.belowB hbel8 hlow,HC.out.rest,by simp;omega,HO.out⟩
     clear hb8 hbel8
     go_wp2
     go_roundg (t.length + 1)
     case measure=>have:=hNt.out;omega
     case rel=>exact ⟨t,_,Lib.hid rfl,HR8⟩
end Go.Proofs.YtnplommdgfgboaaGreatDoor.Prg
namespace Go.Proofs.YtnplommdgfgboaaGreatDoor.Prg
open Go.RowKit Go.Lib B Rd Utf TermPure LinesPure Tx Env Bld
theorem valid_tail (b:UInt8) (t:List UInt8) (hb:b.toNat < 128) (hv:validD (b :: t) = true):validD t = true:=by
 have h:=validD_step (b :: t) (by simp)
 rw [decodeL_ascii b t hb] at h
 rw [hv] at h
 dsimp only at h
 rw [if_neg (by rintro ⟨h1,_⟩;omega)] at h
 simpa using h.symm
theorem valid_dropWhile (p:UInt8 → Bool) (hp:∀ b:UInt8,128 ≤ b.toNat → p b = false):∀ l:List UInt8,validD l = true → validD (l.dropWhile p) = true
 | [],h=>h
 | b :: t,h=>by
  rw [List.dropWhile_cons]
  by_cases hb:b.toNat < 128
  ·
   cases hpb:p b with
   | true=>exact valid_dropWhile p hp t (valid_tail b t hb h)
   | false=>exact h
  ·
   rw [hp b (by omega)]
   exact h
theorem valid_drop (p:List UInt8) (hp:∀ b ∈ p,b.toNat < 128):∀ l:List UInt8,p.isPrefixOf l = true → validD l = true → validD (l.drop p.length) = true:=by
 induction p with
 | nil=>intro l _ h;simpa using h
 | cons c p ih =>
  intro l h hv
  cases l with
  | nil=>cases h
  | cons b t =>
   rw [List.isPrefixOf,Bool.and_eq_true,beq_iff_eq] at h
   obtain ⟨rfl,h⟩:=h
   exact ih (fun x hx=>hp x (by simp [hx])) t h (valid_tail c t (hp c (by simp)) hv)
theorem inRun_high (d:Bool) (b:UInt8) (h:128 ≤ b.toNat):inRun d b = false:=by
 unfold inRun alnum
 have:(b == 45) = false:=by rw [beq_eq_false_iff_ne];intro e;rw [e] at h;exact absurd h (by decide)
 rw [this]
 simp
 omega
theorem blank_high (b:UInt8) (h:128 ≤ b.toNat):LinesPure.blank b = false:=by
 unfold LinesPure.blank
 rw [Bool.or_eq_false_iff,beq_eq_false_iff_ne,beq_eq_false_iff_ne]
 exact ⟨fun e=>by rw [e] at h;exact absurd h (by decide),fun e=>by rw [e] at h;exact absurd h (by decide)⟩
theorem run_valid (d:Bool) (l:List UInt8) (h:validD l = true):validD (run d l).2 = true:=valid_dropWhile _ (inRun_high d) l h
theorem blanks_valid (l:List UInt8) (h:validD l = true):validD (blanks l) = true:=valid_dropWhile _ blank_high l h
theorem take_while (p:UInt8 → Bool) (l:List UInt8):l.take (l.length - (l.dropWhile p).length) = l.takeWhile p:=by
 have h:=List.takeWhile_append_dropWhile (p:=p) (l:=l)
 have hl:=congrArg List.length h
 rw [List.length_append] at hl
 have:l.length - (l.dropWhile p).length = (l.takeWhile p).length:=by omega
 rw [this]
 conv=>lhs;arg 2;rw [← h]
 rw [List.take_left']
 try rfl
theorem run_ascii (d:Bool) (l:List UInt8):∀ b ∈ (run d l).1,b.toNat < 128:=by
 intro b hb
 have:=List.all_eq_true.1 (List.all_takeWhile (p:=inRun d) (l:=l)) b hb
 by_cases h:b.toNat < 128
 ·
  exact h
 ·
  rw [inRun_high d b (by omega)] at this
  cases this
def Tells (g:Nat) (d:Bool):Prop:=(∀ args w,(callFunc g args).run Tryz.prog w = .ok (.enter g args) w)∧∃ p:Nat → Bool,(∀ c,128 ≤ c → p c = false)∧(∀ b:UInt8,p b.toNat = inRun d b)∧∀ w,PredGrows Tryz.prog g #[] p w
theorem tells_plain:Tells 164 false:=by
 refine ⟨enters_of Tryz.func164 (by kernel_rfl) rfl,alnum,?_,?_,?_⟩
 ·
  intro c h;unfold alnum;simp;omega
 ·
  intro b;simp [inRun]
 ·
  intro w W x hx hb
  exact (plain_calls x hx W).mono fun e w' ⟨h1,h2⟩=>⟨h1,h2 ▸ Below.refl _ _⟩
theorem dash_calls (c:Nat) (h1:c ≤ 1114111) (w:World) :
  Calls Tryz.prog 209 #[.int .i32 (c:Int)] w fun e w'=>e = .returned (.bool (alnum c || ((c:Int) == 45)))∧w = w':=by
 go_enter Tryz.func209,Tryz.ntmps209
 go_wp2_with fail
 refine (plain_calls c h1 _).mono ?_
 rintro e w1 ⟨rfl,rfl⟩
 generalize hq:alnum c = q
 have HQ:=Lib.hid hq
 clear hq
 cases q
 ·
  go_wp2
  go_ret
  exact ⟨ret_bool (by rw [HQ.out];rfl),rfl⟩
 ·
  go_wp2
  go_ret
  exact ⟨ret_bool (by rw [HQ.out];rfl),rfl⟩
theorem tells_dash:Tells 209 true:=by
 refine ⟨enters_of Tryz.func209 (by kernel_rfl) rfl,fun c=>alnum c || ((c:Int) == 45),?_,?_,?_⟩
 ·
  intro c h
  have:((c:Int) == 45) = false:=by rw [beq_eq_false_iff_ne];omega
  unfold alnum
  simp [this]
  omega
 ·
  intro b
  show (alnum b.toNat || ((b.toNat:Int) == 45)) = inRun true b
  unfold inRun
  rw [Bool.true_and]
  congr 1
  rw [Bool.eq_iff_iff,beq_iff_eq,beq_iff_eq]
  constructor
  ·
   intro h;exact UInt8.toNat_inj.1 (by show b.toNat = 45;omega)
  ·
   rintro rfl;rfl
 ·
  intro w W x hx hb
  exact (dash_calls x hx W).mono fun e w' ⟨h1,h2⟩=>⟨h1,h2 ▸ Below.refl _ _⟩
set_option maxHeartbeats 1600000 in
theorem while_calls (rb:Nat) (l:List UInt8) (g:Nat) (d:Bool) (hg:Tells g d) (w:World) (h:At w rb l false) :
  Calls Tryz.prog 163 #[.pointer (some ⟨rb,0,none⟩),.func (.func g) #[] #[]] w fun e w'=>e = .returned (.string (mkS (run d l).1))∧Step w w' rb (run d l).2 false:=by
 obtain ⟨eg,p,hp1,hp2,hp3⟩:=hg
 have HS:=Lib.hid (Step.refl h)
 have hlen:=h.len
 have hT:∀ W,Calls Tryz.prog 207 #[.string (mkS l),.func (.func g) #[] #[]] W fun e w'=>e = .returned (.string (mkS (run d l).2))∧Below W.heap.size W w':=fun W=>by
  refine (Tryz.strings_TrimLeftFunc_grows g #[] eg p (mkS l) W (hp3 W)).mono ?_
  rintro e w' ⟨h1,h2⟩
  refine ⟨?_,h2⟩
  rw [h1,trimF_eq p hp1 l]
  unfold run
  congr 3
  congr 1
  funext b
  exact hp2 b
 have HT:=Lib.hid hT
 have hr2:(run d l).2.length ≤ l.length:=List.Sublist.length_le (List.dropWhile_sublist _)
 have HX:Hid ((mkS l).extract 0 (l.length - (run d l).2.length) = mkS (run d l).1):=Lib.hid (by
  rw [mkS_extract,List.drop_zero,Nat.sub_zero]
  exact congrArg mkS (take_while (inRun d) l))
 clear hT eg hp1 hp2 hp3
 generalize (run d l).2 = q at *
 generalize (run d l).1 = u at *
 obtain ⟨c0,c1,f0,f1,_⟩:=h
 have zl:=mkS_size l
 have zq:=mkS_size q
 go_enter Tryz.func163,Tryz.ntmps163
 go_wp2_with fail
 refine (HT.out _).mono ?_
 rintro e w1 ⟨rfl,hb1⟩
 have HS1:=Lib.hid (HS.out.below hb1)
 clear c0 c1 f0 f1 hb1 HT
 obtain ⟨c0,c1,f0,f1,_⟩:=HS1.out.at'
 have hw1:IntKind.i64.wrap ((l.length:Int) - (q.length:Int)) = (l.length:Int) - (q.length:Int):=IntWalk.i64_in _ (by omega)
 have hw2:(0:Int) ≤ (l.length:Int) - (q.length:Int):=by omega
 have hw3:((l.length:Int) - (q.length:Int)).toNat = l.length - q.length:=by omega
 have hw4:(l.length:Int) - (q.length:Int) ≤ (l.length:Int):=by omega
 have hw5:(q.length:Int) ≤ (l.length:Int):=by omega
 go_wp2
 go_quiet (fail)
 go_wp2
 go_ret
 exact ⟨(ret_str HX.out:Ending.returned (.string ((mkS l).extract 0 (l.length - q.length))) = .returned (.string (mkS u))),(HS1.out.below (bel_drewN (Below.refl _ _) _)).set0 (by omega)⟩
end Go.Proofs.YtnplommdgfgboaaGreatDoor.Prg
namespace Go.Proofs.YtnplommdgfgboaaGreatDoor.LineEq
open Go.Lib B Utf TermPure LinesPure
theorem up_ways (stop:UInt8) (lit:Bool):∀ (n:Nat) (l:List UInt8),l.length ≤ n →
  up stop lit true l = up stop lit false l ∨ (up stop lit true l = none∧∃ o r,up stop lit false l = some (o,r)∧((10:UInt8) ∈ o ∨ (13:UInt8) ∈ o))
 | n,[],_=>.inl rfl
 | 0,b :: l,h=>by simp at h
 | n + 1,b :: l,h=>by
  simp at h
  by_cases h1:b = stop
  ·
   subst h1
   left
   rw [up_stop,up_stop]
  ·
   by_cases h2:b = 92
   ·
    cases he:esc lit l with
    | none=>left;rw [up_esc_none stop lit true b l h1 h2 he,up_esc_none stop lit false b l h1 h2 he]
    | some p =>
     obtain ⟨o1,r1⟩:=p
     have hl:=esc_len lit l o1 r1 he
     rw [up_esc stop lit true b l o1 r1 h1 h2 he,up_esc stop lit false b l o1 r1 h1 h2 he]
     rcases up_ways stop lit n r1 (by omega) with e | ⟨e1,o,r,e2,e3⟩
     ·
      left;rw [e]
     ·
      right
      rw [e1,e2]
      exact ⟨rfl,_,_,rfl,by rcases e3 with e | e <;> simp [e]⟩
   ·
    by_cases h3:b = 10 ∨ b = 13
    ·
     rw [up_line stop lit true b l h1 h2 ⟨rfl,h3⟩,up_other stop lit false b l h1 h2 (by rintro ⟨h,_⟩;cases h)]
     cases hu:up stop lit false l with
     | none=>left;rfl
     | some p =>
      obtain ⟨o,r⟩:=p
      right
      exact ⟨rfl,_,_,rfl,by rcases h3 with e | e <;> simp [e]⟩
    ·
     rw [up_other stop lit true b l h1 h2 (fun h=>h3 h.2),up_other stop lit false b l h1 h2 (by rintro ⟨h,_⟩;cases h)]
     rcases up_ways stop lit n l h with e | ⟨e1,o,r,e2,e3⟩
     ·
      left;rw [e]
     ·
      right
      rw [e1,e2]
      exact ⟨rfl,_,_,rfl,by rcases e3 with e | e <;> simp [e]⟩
theorem rune_mem:∀ (n:Nat) (l:List UInt8),l.length ≤ n → validD l = true → ∀ b ∈ l,b.toNat < 128 → b.toNat ∈ runes l
 | n,[],_,_,b,hb,_=>by cases hb
 | 0,c :: l,h,_,_,_,_=>by simp at h
 | n + 1,c :: l,h,hv,b,hb,hlt=>by
  simp at h
  rcases Utf.step (c :: l) (by simp) hv with ⟨b',t,e,hb',hd,ht⟩ | ⟨ch,t,x,hc⟩
  ·
   cases e
   rw [runes_ascii c l hb']
   rcases List.mem_cons.1 hb with rfl | hb
   ·
    simp
   ·
    exact List.mem_cons_of_mem _ (rune_mem n l h ht b hb hlt)
  ·
   rw [runes_chunk hc]
   rw [hc.eq] at hb
   rcases List.mem_append.1 hb with hb | hb
   ·
    have:=hc.high b hb;omega
   ·
    have hl:=congrArg List.length hc.eq
    rw [List.length_append,List.length_cons] at hl
    have:=hc.two
    exact List.mem_cons_of_mem _ (rune_mem n t (by omega) hc.rest b hb hlt)
theorem iri_no_line (o:List UInt8) (h:(10:UInt8) ∈ o ∨ (13:UInt8) ∈ o):isIRI o = false:=by
 rw [Bool.eq_false_iff]
 intro hi
 unfold isIRI at hi
 simp only [Bool.and_eq_true] at hi
 obtain ⟨_,_,hv,ha⟩:=hi
 rw [List.all_eq_true] at ha
 rcases h with h | h
 ·
  have:=ha _ (rune_mem _ o (Nat.le_refl _) hv _ h (by decide));exact absurd this (by decide)
 ·
  have:=ha _ (rune_mem _ o (Nat.le_refl _) hv _ h (by decide));exact absurd this (by decide)
theorem term_ways (l:List UInt8):term true l = term false l ∨ (term false l = none∧∃ t r,term true l = some (t,r)∧([94,94]:List UInt8).isPrefixOf r = true):=by
 unfold term rawTerm
 cases c1:([60]:List UInt8).isPrefixOf l with
 | true =>
  left
  simp only [if_true]
  rcases up_ways 62 false _ (l.drop 1) (Nat.le_refl _) with e | ⟨e1,o,r,e2,e3⟩
  ·
   rw [e]
  ·
   rw [e1,e2]
   have hn:is ⟨1,o,[]⟩ = false:=by
    unfold is
    rw [if_pos rfl,iri_no_line o e3]
    try rfl
   simp [hn]
 | false =>
  simp only [Bool.false_eq_true,if_false]
  cases c2:([95,58]:List UInt8).isPrefixOf l with
  | true=>left;rfl
  | false =>
   simp only [Bool.false_eq_true,if_false]
   cases c3:([34]:List UInt8).isPrefixOf l with
   | false=>left;rfl
   | true =>
    simp only [if_true]
    unfold literal
    cases hu:up 34 true true (l.drop 1) with
    | none=>left;rfl
    | some p =>
     obtain ⟨t,r⟩:=p
     dsimp only
     cases d1:([64]:List UInt8).isPrefixOf r with
     | true=>left;rfl
     | false =>
      simp only [Bool.false_eq_true,if_false]
      cases d2:([94,94]:List UInt8).isPrefixOf r with
      | false=>left;rfl
      | true =>
       simp only [if_true]
       cases d3:([60]:List UInt8).isPrefixOf (r.drop 2) with
       | true =>
        left
        simp only [if_true]
        rcases up_ways 62 false _ (r.drop 3) (Nat.le_refl _) with e | ⟨e1,o,q,e2,e3⟩
        ·
         rw [e]
        ·
         rw [e1,e2]
         have hn:is ⟨5,t,o⟩ = false:=by
          unfold is
          rw [if_neg (by simp),if_neg (by simp),if_neg (by simp),if_neg (by simp),if_pos rfl,iri_no_line o e3]
          simp
         simp [hn]
       | false =>
        simp only [Bool.false_eq_true,if_false]
        by_cases hi:is ⟨3,t,[]⟩ = true
        ·
         right
         rw [if_pos hi]
         exact ⟨by first | rfl | trivial,_,_,rfl,d2⟩
        ·
         left
         rw [if_neg hi]
theorem caret_stop (r:List UInt8) (h:([94,94]:List UInt8).isPrefixOf r = true):blanks r = r∧(∀ ref,term ref r = none)∧([46]:List UInt8).isPrefixOf r = false:=by
 obtain ⟨t,rfl⟩:∃ t,r = 94 :: t:=by
  cases r with
  | nil=>cases h
  | cons b t =>
   rw [List.isPrefixOf,Bool.and_eq_true,beq_iff_eq] at h
   exact ⟨t,by rw [← h.1]⟩
 refine ⟨rfl,fun ref=>?_,rfl⟩
 have h1:([60]:List UInt8).isPrefixOf (94 :: t) = false:=rfl
 have h2:([95,58]:List UInt8).isPrefixOf (94 :: t) = false:=rfl
 have h3:([34]:List UInt8).isPrefixOf (94 :: t) = false:=rfl
 rw [term,rawTerm,h1,h2,h3]
 try rfl
theorem lineOf_one (s:List UInt8):lineOf true s = lineOf false s:=by
 unfold lineOf
 split
 ·
  rfl
 ·
  split
  ·
   rfl
  ·
   rcases term_ways (blanks s) with e | ⟨e1,t,r,e2,e3⟩
   ·
    rw [e]
    cases term false (blanks s) with
    | none=>rfl
    | some x =>
     obtain ⟨a,r⟩:=x
     dsimp only
     rcases term_ways (blanks r) with e | ⟨e1,t,r2,e2,e3⟩
     ·
      rw [e]
      cases term false (blanks r) with
      | none=>rfl
      | some x =>
       obtain ⟨p,r2⟩:=x
       dsimp only
       rcases term_ways (blanks r2) with e | ⟨e1,t,r3,e2,e3⟩
       ·
        rw [e]
       ·
        obtain ⟨c1,c2,c3⟩:=caret_stop r3 e3
        rw [e1,e2]
        dsimp only
        rw [c1,c3]
        simp
     ·
      obtain ⟨c1,c2,c3⟩:=caret_stop r2 e3
      rw [e1,e2]
      dsimp only
      rw [c1,c2]
   ·
    obtain ⟨c1,c2,c3⟩:=caret_stop r e3
    rw [e1,e2]
    dsimp only
    rw [c1,c2]
end Go.Proofs.YtnplommdgfgboaaGreatDoor.LineEq
namespace Go.Proofs.YtnplommdgfgboaaGreatDoor.Round
open Go.Lib B Utf TermPure LinesPure
theorem decode_front {l ch t:List UInt8} {c:Nat} (h:Chunk l ch t c) (r:List UInt8):decodeL (ch ++ r) = (c,ch.length):=by
 have g:∀ i,i < ch.length → (ch ++ r).getD i 0 = (ch ++ t).getD i 0:=fun i hi=>by
  rw [List.getD_eq_getElem?_getD,List.getD_eq_getElem?_getD,List.getElem?_append_left hi,List.getElem?_append_left hi]
 have hd:=h.dec
 have h2:=h.two
 have h4:=h.four
 have hge:=h.ge
 rw [h.eq,decodeL_N] at hd
 rw [decodeL_N,List.length_append]
 have sh:=decodeN_shape (ch ++ t).length ((ch ++ t).getD 0 0).toNat ((ch ++ t).getD 1 0).toNat ((ch ++ t).getD 2 0).toNat ((ch ++ t).getD 3 0).toNat
 rw [hd] at sh
 rcases sh with ⟨c1,e⟩ | ⟨c1,c2,c3,cv,e⟩ | ⟨c1,c2,c3,c4,cv,cs,e⟩ | ⟨c1,c2,c3,c4,c5,cv,cw,e⟩ | e
 ·
  simp only [Prod.mk.injEq] at e
  omega
 ·
  simp only [Prod.mk.injEq] at e
  rw [g 0 (by omega),g 1 (by omega)]
  rw [e.1,e.2]
  generalize ((ch ++ t).getD 0 0).toNat = b0 at *
  generalize ((ch ++ t).getD 1 0).toNat = b1 at *
  unfold decodeN
  rw [if_neg (by omega),if_pos (by omega),if_pos (by omega)]
 ·
  simp only [Prod.mk.injEq] at e
  rw [g 0 (by omega),g 1 (by omega),g 2 (by omega)]
  rw [e.1,e.2]
  generalize ((ch ++ t).getD 0 0).toNat = b0 at *
  generalize ((ch ++ t).getD 1 0).toNat = b1 at *
  generalize ((ch ++ t).getD 2 0).toNat = b2 at *
  unfold decodeN
  rw [if_neg (by omega),if_neg (by omega),if_pos (by omega),if_pos (by omega)]
 ·
  simp only [Prod.mk.injEq] at e
  rw [g 0 (by omega),g 1 (by omega),g 2 (by omega),g 3 (by omega)]
  rw [e.1,e.2]
  generalize ((ch ++ t).getD 0 0).toNat = b0 at *
  generalize ((ch ++ t).getD 1 0).toNat = b1 at *
  generalize ((ch ++ t).getD 2 0).toNat = b2 at *
  generalize ((ch ++ t).getD 3 0).toNat = b3 at *
  unfold decodeN
  rw [if_neg (by omega),if_neg (by omega),if_neg (by omega),if_pos (by omega),if_pos (by omega)]
 ·
  simp only [Prod.mk.injEq] at e
  omega
theorem valid_front {l ch t:List UInt8} {c:Nat} (h:Chunk l ch t c) (r:List UInt8):validD (ch ++ r) = validD r:=by
 have hne:ch ++ r ≠ []:=by
  have h2:=h.two
  intro e
  have h3:=congrArg List.length e
  rw [List.length_append,List.length_nil] at h3
  omega
 rw [validD_step _ hne,decode_front h r,if_neg (by have:=h.two;dsimp only;omega)]
 dsimp only
 rw [List.drop_left]
theorem valid_app:∀ (n:Nat) (a b:List UInt8),a.length ≤ n → validD a = true → validD b = true → validD (a ++ b) = true
 | _,[],b,_,_,hb=>hb
 | 0,x :: a,b,h,_,_=>by simp at h
 | n + 1,x :: a,b,h,ha,hb=>by
  simp at h
  rcases Utf.step (x :: a) (by simp) ha with ⟨b',t,e,hb',hd,ht⟩ | ⟨ch,t,c,hc⟩
  ·
   cases e
   rw [List.cons_append,validD_cons x _ hb']
   exact valid_app n a b h ht hb
  ·
   have hl:=congrArg List.length hc.eq
   rw [List.length_append] at hl
   simp at hl
   have:=hc.two
   rw [hc.eq,List.append_assoc,valid_front hc]
   exact valid_app n t b (by omega) hc.rest hb
theorem valid_append {a b:List UInt8} (ha:validD a = true) (hb:validD b = true):validD (a ++ b) = true:=valid_app a.length a b (Nat.le_refl _) ha hb
theorem valid_low {a:List UInt8} (h:∀ b ∈ a,b.toNat < 128):validD a = true:=by
 rw [validD_ascii a.length a (fun b hb=>h b (List.mem_of_mem_take hb)),List.drop_length]
 try rfl
theorem escB_high (b:UInt8) (h:128 ≤ b.toNat):escB b = [b]:=by
 unfold escB
 have ne:∀ k:UInt8,k.toNat < 128 → b ≠ k:=fun k hk e=>by rw [e] at h;omega
 rw [if_neg (ne 34 (by decide)),if_neg (ne 92 (by decide)),if_neg (ne 10 (by decide)),if_neg (ne 13 (by decide)),if_neg (ne 9 (by decide)),if_neg (ne 8 (by decide)),if_neg (ne 12 (by decide)),if_neg (by omega)]
theorem esc_low_all:∀ k:Fin 128,∀ x ∈ escB (UInt8.ofNat k.val),x.toNat < 128:=by decide +kernel
theorem byte_eq (b:UInt8) (h:b.toNat < 128):∃ k:Fin 128,b = UInt8.ofNat k.val:=⟨⟨b.toNat,h⟩,by simp⟩
theorem escB_low (b:UInt8) (h:b.toNat < 128):∀ x ∈ escB b,x.toNat < 128:=by
 obtain ⟨k,rfl⟩:=byte_eq b h
 exact esc_low_all k
theorem flat_high:∀ l:List UInt8,(∀ b ∈ l,128 ≤ b.toNat) → l.flatMap escB = l
 | [],_=>rfl
 | b :: l,h=>by
  rw [List.flatMap_cons,escB_high b (h b (by simp)),flat_high l (fun x hx=>h x (by simp [hx]))]
  try rfl
theorem valid_esc:∀ (n:Nat) (s:List UInt8),s.length ≤ n → validD s = true → validD (s.flatMap escB) = true
 | _,[],_,_=>rfl
 | 0,x :: a,h,_=>by simp at h
 | n + 1,x :: a,h,ha=>by
  simp at h
  rcases Utf.step (x :: a) (by simp) ha with ⟨b',t,e,hb',hd,ht⟩ | ⟨ch,t,c,hc⟩
  ·
   cases e
   rw [List.flatMap_cons]
   exact valid_append (valid_low (escB_low x hb')) (valid_esc n a h ht)
  ·
   have hl:=congrArg List.length hc.eq
   rw [List.length_append] at hl
   simp at hl
   have:=hc.two
   rw [hc.eq,List.flatMap_append,flat_high ch hc.high,valid_front hc]
   exact valid_esc n t (by omega) hc.rest
def Reads (b:UInt8):Prop:=∀ (nl:Bool) (r:List UInt8),up 34 true nl (escB b ++ r) = (up 34 true nl r).map fun x=>(b :: x.1,x.2)
theorem reads_esc (b c:UInt8) (h:escB b = [92,c]) (h1:c ≠ 117) (h2:c ≠ 85) (he:escV c = some b):Reads b:=by
 intro nl r
 rw [h]
 show up 34 true nl (92 :: c :: r) = _
 rw [up_esc 34 true nl 92 (c :: r) [b] r (by decide) rfl (by rw [esc,if_neg h1,if_neg h2,if_pos rfl,he])]
 try rfl
theorem hex_all:∀ k:Fin 128,hexV (hexD (k.val / 16)) = some (k.val / 16)∧hexV (hexD (k.val % 16)) = some (k.val % 16)∧Lib.validRune ((k.val:Nat):Int) = true∧encodeRune ((k.val:Nat):Int) = [UInt8.ofNat k.val]:=by decide +kernel
theorem reads_hex (b:UInt8) (hb:b.toNat < 128) (h:escB b = [92,117,48,48,hexD (b.toNat / 16),hexD (b.toNat % 16)]):Reads b:=by
 intro nl r
 obtain ⟨h1,h2,h3,h4⟩:=hex_all ⟨b.toNat,hb⟩
 dsimp only at h1 h2 h3 h4
 rw [h]
 show up 34 true nl (92 :: 117 :: 48 :: 48 :: hexD (b.toNat / 16) :: hexD (b.toNat % 16) :: r) = _
 have hx:hexGo 4 0 (48 :: 48 :: hexD (b.toNat / 16) :: hexD (b.toNat % 16) :: r) = some (b.toNat,r):=by
  rw [hexGo,show hexV 48 = some 0 from rfl]
  dsimp only
  rw [hexGo,show hexV 48 = some 0 from rfl]
  dsimp only
  rw [hexGo,h1]
  dsimp only
  rw [hexGo,h2]
  dsimp only
  rw [hexGo]
  exact congrArg (fun x=>some (x,r)) (by omega)
 rw [up_esc 34 true nl 92 _ [b] r (by decide) rfl (by rw [esc,if_pos rfl,hx,rune,if_pos h3,h4];simp)]
 try rfl
theorem reads_all (b:UInt8):Reads b:=by
 by_cases h1:b = 34
 ·
  subst h1;exact reads_esc _ 34 rfl (by decide) (by decide) rfl
 by_cases h2:b = 92
 ·
  subst h2;exact reads_esc _ 92 rfl (by decide) (by decide) rfl
 by_cases h3:b = 10
 ·
  subst h3;exact reads_esc _ 110 rfl (by decide) (by decide) rfl
 by_cases h4:b = 13
 ·
  subst h4;exact reads_esc _ 114 rfl (by decide) (by decide) rfl
 by_cases h5:b = 9
 ·
  subst h5;exact reads_esc _ 116 rfl (by decide) (by decide) rfl
 by_cases h6:b = 8
 ·
  subst h6;exact reads_esc _ 98 rfl (by decide) (by decide) rfl
 by_cases h7:b = 12
 ·
  subst h7;exact reads_esc _ 102 rfl (by decide) (by decide) rfl
 by_cases h8:b.toNat < 32 ∨ b.toNat = 127
 ·
  exact reads_hex b (by omega) (by unfold escB;rw [if_neg h1,if_neg h2,if_neg h3,if_neg h4,if_neg h5,if_neg h6,if_neg h7,if_pos h8])
 ·
  intro nl r
  have:escB b = [b]:=by unfold escB;rw [if_neg h1,if_neg h2,if_neg h3,if_neg h4,if_neg h5,if_neg h6,if_neg h7,if_neg h8]
  rw [this]
  exact up_other 34 true nl b r h1 h2 (fun h=>h.2.elim h3 h4)
theorem up_flat (nl:Bool) (r:List UInt8):∀ s:List UInt8,up 34 true nl (s.flatMap escB ++ 34 :: r) = some (s,r)
 | []=>up_stop 34 true nl r
 | b :: s=>by
  rw [List.flatMap_cons,List.append_assoc,reads_all b nl,up_flat nl r s]
  try rfl
theorem iri_bytes {s:List UInt8} (h:isIRI s = true):∀ b ∈ s,b.toNat < 128 → iriRune b.toNat = true:=by
 unfold isIRI at h
 simp only [Bool.and_eq_true,decide_eq_true_eq,List.all_eq_true] at h
 intro b hb hlt
 exact h.2.2.2 _ (LineEq.rune_mem s.length s (Nat.le_refl _) h.2.2.1 b hb hlt)
theorem iri_valid {s:List UInt8} (h:isIRI s = true):validD s = true:=by
 unfold isIRI at h
 simp only [Bool.and_eq_true,decide_eq_true_eq] at h
 exact h.2.2.1
theorem up_plain (stop:UInt8) (lit nl:Bool) (r:List UInt8):∀ s:List UInt8,(∀ b ∈ s,b ≠ stop∧b ≠ 92∧b ≠ 10∧b ≠ 13) → up stop lit nl (s ++ stop :: r) = some (s,r)
 | [],_=>up_stop stop lit nl r
 | b :: s,h=>by
  obtain ⟨h1,h2,h3,h4⟩:=h b (by simp)
  rw [List.cons_append,up_other stop lit nl b _ h1 h2 (fun h=>h.2.elim h3 h4),up_plain stop lit nl r s (fun x hx=>h x (by simp [hx]))]
  try rfl
theorem up_iri {s:List UInt8} (h:isIRI s = true) (nl:Bool) (r:List UInt8):up 62 false nl (s ++ 62 :: r) = some (s,r):=by
 refine up_plain 62 false nl r s fun b hb=>?_
 have hi:=iri_bytes h b hb
 refine ⟨?_,?_,?_,?_⟩
 all_goals
  intro e
  subst e
  exact absurd (hi (by decide)) (by decide)
theorem run_all (dash:Bool) (s:List UInt8) (b:UInt8) (r:List UInt8) (h:∀ x ∈ s,inRun dash x = true) (hb:inRun dash b = false):LinesPure.run dash (s ++ b :: r) = (s,b :: r):=by
 unfold LinesPure.run
 rw [List.takeWhile_append_of_pos h,List.dropWhile_append_of_pos h,List.takeWhile_cons,List.dropWhile_cons,hb]
 simp
theorem label_bytes {s:List UInt8} (h:isLabel s = true):∀ b ∈ s,alnum b.toNat = true:=by
 unfold isLabel at h
 simp only [Bool.and_eq_true,decide_eq_true_eq,List.all_eq_true] at h
 exact h.2.2
theorem lang_bytes:∀ (s:List UInt8) (later:Bool) (n:Nat),langGo later n s = true → ∀ b ∈ s,b = 45 ∨ (97 ≤ b.toNat∧b.toNat ≤ 122) ∨ (48 ≤ b.toNat∧b.toNat ≤ 57)
 | [],_,_,_,b,hb=>by cases hb
 | x :: s,later,n,h,b,hb=>by
  rw [langGo] at h
  by_cases h1:x = 45
  ·
   rw [if_pos h1] at h
   simp only [Bool.and_eq_true] at h
   rcases List.mem_cons.1 hb with rfl | hb
   ·
    exact .inl h1
   ·
    exact lang_bytes s _ _ h.2 b hb
  ·
   rw [if_neg h1] at h
   split at h
   ·
    rename_i hc
    simp only [Bool.and_eq_true] at h
    rcases List.mem_cons.1 hb with rfl | hb
    ·
     simp only [Bool.or_eq_true,Bool.and_eq_true,decide_eq_true_eq] at hc
     rcases hc with hc | hc
     ·
      exact .inr (.inl hc)
     ·
      exact .inr (.inr hc.2)
    ·
     exact lang_bytes s _ _ h.2 b hb
   ·
    cases h
theorem lower_same:∀ s:List UInt8,(∀ b ∈ s,¬ (65 ≤ b.toNat∧b.toNat ≤ 90)) → toLowerA s = s
 | [],_=>rfl
 | b :: s,h=>by
  have h1:=h b (by simp)
  have ih:=lower_same s (fun x hx=>h x (by simp [hx]))
  unfold toLowerA at *
  rw [List.map_cons,ih]
  congr 1
  unfold lowerB
  rw [if_neg]
  intro hc
  unfold isUpperB at hc
  simp only [Bool.and_eq_true,decide_eq_true_eq,UInt8.le_iff_toNat_le] at hc
  exact h1 hc
structure Spells (x:List UInt8) (t:Term):Prop where
 valid:validD x = true
 head:∃ b r,x = b :: r∧LinesPure.blank b = false∧b ≠ 35
 reads:∀ b r,LinesPure.blank b = true → LinesPure.rawTerm false (x ++ b :: r) = some (t,b :: r)
theorem blank_run (b:UInt8) (h:LinesPure.blank b = true) (dash:Bool):LinesPure.inRun dash b = false:=by
 unfold LinesPure.blank at h
 simp only [Bool.or_eq_true,beq_iff_eq] at h
 rcases h with rfl | rfl <;> cases dash <;> rfl
theorem blank_not (b:UInt8) (h:LinesPure.blank b = true) (c:UInt8) (hc:LinesPure.blank c = false) (l r:List UInt8):(c :: l).isPrefixOf (b :: r) = false:=by
 have:(c == b) = false:=by rw [beq_eq_false_iff_ne];intro e;subst e;rw [h] at hc;cases hc
 simp [List.isPrefixOf,this]
theorem literal_reads {s x:List UInt8} {k:Int} {e tail:List UInt8} (hu:∀ r,up 34 true true (x ++ 34 :: r) = some (s,r)) (b:UInt8) (r:List UInt8) (hb:LinesPure.blank b = true)
  (h:(k = 3∧e = []∧tail = []) ∨ (k = 4∧isLang e = true∧tail = 64 :: e) ∨ (k = 5∧isIRI e = true∧tail = 94 :: 94 :: 60 :: (e ++ [62]))) :
  LinesPure.rawTerm false (34 :: (x ++ 34 :: tail) ++ b :: r) = some (⟨k,s,e⟩,b :: r):=by
 rw [rawTerm,if_neg (by simp [List.isPrefixOf]),if_neg (by simp [List.isPrefixOf]),if_pos (by simp [List.isPrefixOf])]
 have e0:((34 :: (x ++ 34 :: tail) ++ b :: r:List UInt8).drop 1) = x ++ 34 :: (tail ++ b :: r):=by simp
 rw [e0,literal,hu]
 dsimp only
 rcases h with ⟨rfl,rfl,rfl⟩ | ⟨rfl,he,rfl⟩ | ⟨rfl,he,rfl⟩
 ·
  rw [List.nil_append,blank_not b hb 64 (by decide),blank_not b hb 94 (by decide)]
  try rfl
 ·
  rw [show [64].isPrefixOf (64 :: e ++ b :: r:List UInt8) = true from by simp [List.isPrefixOf],if_pos rfl]
  have hl:∀ c ∈ e,c = 45 ∨ (97 ≤ c.toNat∧c.toNat ≤ 122) ∨ (48 ≤ c.toNat∧c.toNat ≤ 57):=lang_bytes e false 0 (by unfold isLang at he;simp only [Bool.and_eq_true] at he;exact he.1)
  have e1:((64 :: e ++ b :: r:List UInt8).drop 1) = e ++ b :: r:=rfl
  rw [e1,run_all true e b r ?_ (blank_run b hb true)]
  ·
   dsimp only
   rw [lower_same e ?_]
   intro c hc h
   rcases hl c hc with rfl | h' | h'
   ·
    exact absurd h (by decide)
   ·
    omega
   ·
    omega
  ·
   intro c hc
   unfold inRun alnum
   rcases hl c hc with rfl | h' | h'
   ·
    rfl
   ·
    simp [h']
   ·
    simp [h']
 ·
  rw [show [64].isPrefixOf (94 :: 94 :: 60 :: (e ++ [62]) ++ b :: r:List UInt8) = false from by simp [List.isPrefixOf],if_neg (by simp),show [94,94].isPrefixOf (94 :: 94 :: 60 :: (e ++ [62]) ++ b :: r:List UInt8) = true from by simp [List.isPrefixOf],if_pos rfl]
  have e1:((94 :: 94 :: 60 :: (e ++ [62]) ++ b :: r:List UInt8).drop 2) = 60 :: (e ++ [62]) ++ b :: r:=rfl
  have e2:((94 :: 94 :: 60 :: (e ++ [62]) ++ b :: r:List UInt8).drop 3) = e ++ 62 :: (b :: r):=by simp
  rw [e1,e2,show [60].isPrefixOf (60 :: (e ++ [62]) ++ b :: r:List UInt8) = true from by simp [List.isPrefixOf],if_pos rfl,up_iri he]
  try rfl
theorem iri_reads {s x:List UInt8} (hu:∀ r,up 62 false false (x ++ 62 :: r) = some (s,r)) (b:UInt8) (r:List UInt8):LinesPure.rawTerm false (60 :: (x ++ [62]) ++ b :: r) = some (⟨1,s,[]⟩,b :: r):=by
 rw [rawTerm,if_pos (by simp [List.isPrefixOf])]
 have e0:((60 :: (x ++ [62]) ++ b :: r:List UInt8).drop 1) = x ++ 62 :: (b :: r):=by simp
 rw [e0,hu]
 try rfl
theorem blank_reads {s:List UInt8} (h:isLabel s = true) (b:UInt8) (r:List UInt8) (hb:LinesPure.blank b = true):LinesPure.rawTerm false (95 :: 58 :: s ++ b :: r) = some (⟨2,s,[]⟩,b :: r):=by
 rw [rawTerm,if_neg (by simp [List.isPrefixOf]),if_pos (by simp [List.isPrefixOf])]
 have e0:((95 :: 58 :: s ++ b :: r:List UInt8).drop 2) = s ++ b :: r:=rfl
 rw [e0,run_all false s b r (fun c hc=>by unfold inRun;rw [label_bytes h c hc];rfl) (blank_run b hb false)]
theorem is_cases {t:Term} (h:is t = true):(t.kind = 1∧isIRI t.text = true∧t.extra = []) ∨ (t.kind = 2∧isLabel t.text = true∧t.extra = []) ∨ (t.kind = 3∧isText t.text = true∧t.extra = []) ∨ (t.kind = 4∧isText t.text = true∧isLang t.extra = true) ∨ (t.kind = 5∧isText t.text = true∧isIRI t.extra = true):=by
 unfold TermPure.is at h
 split at h
 ·
  rename_i hk;simp only [Bool.and_eq_true,decide_eq_true_eq] at h;exact .inl ⟨hk,h⟩
 split at h
 ·
  rename_i hk;simp only [Bool.and_eq_true,decide_eq_true_eq] at h;exact .inr (.inl ⟨hk,h⟩)
 split at h
 ·
  rename_i hk;simp only [Bool.and_eq_true,decide_eq_true_eq] at h;exact .inr (.inr (.inl ⟨hk,h⟩))
 split at h
 ·
  rename_i hk;simp only [Bool.and_eq_true] at h;exact .inr (.inr (.inr (.inl ⟨hk,h⟩)))
 split at h
 ·
  rename_i hk;simp only [Bool.and_eq_true] at h;exact .inr (.inr (.inr (.inr ⟨hk,h⟩)))
 ·
  cases h
theorem text_valid {s:List UInt8} (h:isText s = true):validD s = true:=by
 unfold isText at h
 simp only [Bool.and_eq_true] at h
 exact h.2
theorem lang_valid {s:List UInt8} (h:isLang s = true):validD s = true:=by
 unfold isLang at h
 simp only [Bool.and_eq_true] at h
 refine valid_low fun b hb=>?_
 rcases lang_bytes s false 0 h.1 b hb with rfl | h' | h'
 ·
  decide
 ·
  omega
 ·
  omega
theorem label_valid {s:List UInt8} (h:isLabel s = true):validD s = true:=by
 refine valid_low fun b hb=>?_
 have:=label_bytes h b hb
 unfold alnum at this
 simp only [Bool.or_eq_true,Bool.and_eq_true,decide_eq_true_eq] at this
 omega
theorem valid_cons (b:UInt8) (hb:b.toNat < 128) {t:List UInt8} (h:validD t = true):validD (b :: t) = true:=by rw [validD_cons b t hb];exact h
theorem valid_quoted {s:List UInt8} (h:validD s = true):validD (TermPure.quoted s) = true:=
 valid_cons 34 (by decide) (valid_append (valid_esc s.length s (Nat.le_refl _) h) (valid_low (a:=[34]) (by decide)))
theorem shown_spells {t:Term} (h:is t = true):Spells (shown t) t:=by
 obtain ⟨k,s,e⟩:=t
 have hc:=is_cases h
 dsimp only at hc
 rcases hc with ⟨rfl,h1,rfl⟩ | ⟨rfl,h1,rfl⟩ | ⟨rfl,h1,rfl⟩ | ⟨rfl,h1,h2⟩ | ⟨rfl,h1,h2⟩
 ·
  refine ⟨valid_cons 60 (by decide) (valid_append (iri_valid h1) (valid_low (by decide))),⟨60,_,rfl,rfl,by decide⟩,fun b r hb=>iri_reads (fun r=>up_iri h1 false r) b r⟩
 ·
  refine ⟨valid_cons 95 (by decide) (valid_cons 58 (by decide) (label_valid h1)),⟨95,_,rfl,rfl,by decide⟩,fun b r hb=>blank_reads h1 b r hb⟩
 ·
  refine ⟨valid_quoted (text_valid h1),⟨34,_,rfl,rfl,by decide⟩,fun b r hb=>literal_reads (tail:=[]) (fun r=>up_flat true r s) b r hb (.inl ⟨rfl,rfl,rfl⟩)⟩
 ·
  refine ⟨valid_append (valid_quoted (text_valid h1)) (valid_cons 64 (by decide) (lang_valid h2)),⟨34,_,rfl,rfl,by decide⟩,fun b r hb=>?_⟩
  have:=literal_reads (tail:=64 :: e) (fun r=>up_flat true r s) b r hb (.inr (.inl ⟨rfl,h2,rfl⟩))
  rw [← this]
  congr 1
  show (34 :: (s.flatMap escB ++ [34]) ++ 64 :: e) ++ b :: r = _
  simp
 ·
  refine ⟨valid_append (valid_quoted (text_valid h1)) (valid_cons 94 (by decide) (valid_cons 94 (by decide) (valid_cons 60 (by decide) (valid_append (iri_valid h2) (valid_low (by decide)))))),⟨34,_,rfl,rfl,by decide⟩,fun b r hb=>?_⟩
  have:=literal_reads (tail:=94 :: 94 :: 60 :: (e ++ [62])) (fun r=>up_flat true r s) b r hb (.inr (.inr ⟨rfl,h2,rfl⟩))
  rw [← this]
  congr 1
  show (34 :: (s.flatMap escB ++ [34]) ++ 94 :: 94 :: 60 :: (e ++ [62])) ++ b :: r = _
  simp
end Go.Proofs.YtnplommdgfgboaaGreatDoor.Round
namespace Go.Proofs.YtnplommdgfgboaaGreatDoor.SortP
open Go.Lib B Utf TermPure LinesPure Round
def cmpL (a b:List UInt8):Int:=if a < b then -1 else if b < a then 1 else 0
theorem cmpL_zero (a b:List UInt8):cmpL a b = 0 ↔ a = b:=by
 unfold cmpL
 constructor
 ·
  intro h
  split at h
  ·
   cases h
  ·
   rename_i h1
   split at h
   ·
    cases h
   ·
    rename_i h2
    exact List.le_antisymm (List.not_lt.1 h2) (List.not_lt.1 h1)
 ·
  rintro rfl
  rw [if_neg (List.lt_irrefl a),if_neg (List.lt_irrefl a)]
theorem cmpL_neg (a b:List UInt8):cmpL a b < 0 ↔ a < b:=by
 unfold cmpL
 split
 ·
  rename_i h;exact ⟨fun _=>h,fun _=>by decide⟩
 ·
  rename_i h
  split
  ·
   exact ⟨fun h'=>absurd h' (by decide),fun h'=>absurd h' h⟩
  ·
   exact ⟨fun h'=>absurd h' (by decide),fun h'=>absurd h' h⟩
theorem cmpL_swap (a b:List UInt8):cmpL b a = - cmpL a b:=by
 unfold cmpL
 by_cases h1:a < b
 ·
  simp [h1,List.lt_asymm h1]
 ·
  by_cases h2:b < a
  ·
   simp [h1,h2]
  ·
   simp [h1,h2]
theorem cmpL_three (a b:List UInt8):cmpL a b = -1 ∨ cmpL a b = 0 ∨ cmpL a b = 1:=by
 unfold cmpL
 split
 ·
  exact .inl rfl
 ·
  split
  ·
   exact .inr (.inr rfl)
  ·
   exact .inr (.inl rfl)
def cmpTm (a b:Term):Int:=cmpL (shown a) (shown b)
def orI (x y z:Int):Int:=if x ≠ 0 then x else if y ≠ 0 then y else z
def cmpT (a b:Triple):Int:=orI (cmpTm a.s b.s) (cmpTm a.p b.p) (cmpTm a.o b.o)
def key (a:Triple):List UInt8 × List UInt8 × List UInt8:=(shown a.s,shown a.p,shown a.o)
theorem cmpT_zero (a b:Triple):cmpT a b = 0 ↔ key a = key b:=by
 unfold cmpT orI cmpTm key
 have h1:=cmpL_zero (shown a.s) (shown b.s)
 have h2:=cmpL_zero (shown a.p) (shown b.p)
 have h3:=cmpL_zero (shown a.o) (shown b.o)
 simp only [Prod.mk.injEq,← h1,← h2,← h3]
 split
 ·
  omega
 ·
  split <;> omega
theorem cmpT_swap (a b:Triple):cmpT b a = - cmpT a b:=by
 unfold cmpT orI cmpTm
 rw [cmpL_swap (shown a.s),cmpL_swap (shown a.p),cmpL_swap (shown a.o)]
 by_cases h1:cmpL (shown a.s) (shown b.s) = 0
 ·
  by_cases h2:cmpL (shown a.p) (shown b.p) = 0
  ·
   simp [h1,h2]
  ·
   simp [h1,h2]
 ·
  simp [h1]
theorem cmpT_three (a b:Triple):cmpT a b = -1 ∨ cmpT a b = 0 ∨ cmpT a b = 1:=by
 unfold cmpT orI cmpTm
 split
 ·
  exact cmpL_three _ _
 ·
  split
  ·
   exact cmpL_three _ _
  ·
   exact cmpL_three _ _
def ltT (a b:Triple):Prop:=cmpT a b < 0
instance (a b:Triple):Decidable (ltT a b):=inferInstanceAs (Decidable (cmpT a b < 0))
theorem ltT_iff (a b:Triple):ltT a b ↔ shown a.s < shown b.s ∨ (shown a.s = shown b.s∧(shown a.p < shown b.p ∨ (shown a.p = shown b.p∧shown a.o < shown b.o))):=by
 unfold ltT cmpT orI cmpTm
 have a1:=cmpL_zero (shown a.s) (shown b.s)
 have a2:=cmpL_zero (shown a.p) (shown b.p)
 have b1:=cmpL_neg (shown a.s) (shown b.s)
 have b2:=cmpL_neg (shown a.p) (shown b.p)
 have b3:=cmpL_neg (shown a.o) (shown b.o)
 by_cases h1:shown a.s = shown b.s
 ·
  have h1':¬ shown a.s < shown b.s:=by rw [h1];exact List.lt_irrefl _
  rw [if_neg (by simp [a1.2 h1])]
  by_cases h2:shown a.p = shown b.p
  ·
   have h2':¬ shown a.p < shown b.p:=by rw [h2];exact List.lt_irrefl _
   rw [if_neg (by simp [a2.2 h2]),b3]
   simp [h1,h2,List.lt_irrefl]
  ·
   rw [if_pos (fun e=>h2 (a2.1 e)),b2]
   simp [h1,h2,List.lt_irrefl]
 ·
  rw [if_pos (fun e=>h1 (a1.1 e)),b1]
  simp [h1]
theorem ltT_irrefl (a:Triple):¬ ltT a a:=by
 unfold ltT
 rw [(cmpT_zero a a).2 rfl]
 decide
theorem ltT_trans {a b c:Triple} (h1:ltT a b) (h2:ltT b c):ltT a c:=by
 rw [ltT_iff] at *
 rcases h1 with h1 | ⟨e1,h1⟩
 ·
  rcases h2 with h2 | ⟨e2,_⟩
  ·
   exact .inl (List.lt_trans h1 h2)
  ·
   exact .inl (e2 ▸ h1)
 ·
  rcases h2 with h2 | ⟨e2,h2⟩
  ·
   exact .inl (e1 ▸ h2)
  ·
   refine .inr ⟨e1.trans e2,?_⟩
   rcases h1 with h1 | ⟨e1,h1⟩
   ·
    rcases h2 with h2 | ⟨e2,_⟩
    ·
     exact .inl (List.lt_trans h1 h2)
    ·
     exact .inl (e2 ▸ h1)
   ·
    rcases h2 with h2 | ⟨e2,h2⟩
    ·
     exact .inl (e1 ▸ h2)
    ·
     exact .inr ⟨e1.trans e2,List.lt_trans h1 h2⟩
theorem ltT_asymm {a b:Triple} (h1:ltT a b):¬ ltT b a:=fun h2=>ltT_irrefl a (ltT_trans h1 h2)
theorem ltT_key {a b c:Triple} (h:key a = key b):(ltT a c ↔ ltT b c)∧(ltT c a ↔ ltT c b):=by
 unfold key at h
 simp only [Prod.mk.injEq] at h
 obtain ⟨h1,h2,h3⟩:=h
 constructor <;> rw [ltT_iff,ltT_iff,h1,h2,h3]
theorem ltT_or (a b:Triple):ltT a b ∨ key a = key b ∨ ltT b a:=by
 rcases cmpT_three a b with h | h | h
 ·
  left;unfold ltT;rw [h];decide
 ·
  right;left;exact (cmpT_zero a b).1 h
 ·
  right;right;unfold ltT;rw [cmpT_swap,h];decide
theorem le_trans {a b c:Triple} (h1:¬ ltT b a) (h2:¬ ltT c b):¬ ltT c a:=by
 intro h
 rcases ltT_or a b with hab | hab | hab
 ·
  exact h2 (ltT_trans h hab)
 ·
  exact h2 ((ltT_key hab).2.1 h)
 ·
  exact h1 hab
theorem shown_inj {a b:Term} (ha:is a = true) (hb:is b = true) (h:shown a = shown b):a = b:=by
 have h1:=(shown_spells ha).reads 32 [] rfl
 have h2:=(shown_spells hb).reads 32 [] rfl
 rw [h,h2] at h1
 cases h1
 rfl
theorem key_inj {a b:Triple} (ha:isTriple a = true) (hb:isTriple b = true) (h:key a = key b):a = b:=by
 unfold isTriple at ha hb
 simp only [Bool.and_eq_true] at ha hb
 unfold key at h
 simp only [Prod.mk.injEq] at h
 obtain ⟨s,p,o⟩:=a
 obtain ⟨s',p',o'⟩:=b
 rw [Triple.mk.injEq]
 exact ⟨shown_inj ha.1 hb.1 h.1,shown_inj ha.2.1 hb.2.1 h.2.1,shown_inj ha.2.2.1 hb.2.2.1 h.2.2⟩
theorem cmpT_eq {a b:Triple} (ha:isTriple a = true) (hb:isTriple b = true):cmpT a b = 0 ↔ a = b:=
 ⟨fun h=>key_inj ha hb ((cmpT_zero a b).1 h),fun h=>(cmpT_zero a b).2 (by rw [h])⟩
abbrev Rise (l:List Triple):Prop:=l.Pairwise ltT
abbrev Valid (l:List Triple):Prop:=∀ t ∈ l,isTriple t = true
theorem rise_eq:∀ {a b:List Triple},Rise a → Rise b → (∀ x,x ∈ a ↔ x ∈ b) → a = b
 | [],[],_,_,_=>rfl
 | [],y :: b,_,_,h=>absurd ((h y).2 (by simp)) (by simp)
 | x :: a,[],_,_,h=>absurd ((h x).1 (by simp)) (by simp)
 | x :: a,y :: b,ha,hb,h=>by
  obtain ⟨ha1,ha2⟩:=List.pairwise_cons.1 ha
  obtain ⟨hb1,hb2⟩:=List.pairwise_cons.1 hb
  have hxy:x = y:=by
   rcases List.mem_cons.1 ((h x).1 (by simp)) with e | e
   ·
    exact e
   ·
    rcases List.mem_cons.1 ((h y).2 (by simp)) with e' | e'
    ·
     exact e'.symm
    ·
     exact absurd (ha1 y e') (ltT_asymm (hb1 x e))
  subst hxy
  congr 1
  refine rise_eq ha2 hb2 fun z=>?_
  constructor
  ·
   intro hz
   rcases List.mem_cons.1 ((h z).1 (by simp [hz])) with e | e
   ·
    subst e;exact absurd (ha1 z hz) (ltT_irrefl z)
   ·
    exact e
  ·
   intro hz
   rcases List.mem_cons.1 ((h z).2 (by simp [hz])) with e | e
   ·
    subst e;exact absurd (hb1 z hz) (ltT_irrefl z)
   ·
    exact e
def putT:List Triple → Triple → List Triple
 | [],t=>[t]
 | x :: l,t=>if cmpT x t < 0 then x :: putT l t else if cmpT x t = 0 then x :: l else t :: x :: l
def sortT (l:List Triple):List Triple:=l.foldl putT []
theorem putT_mem:∀ (l:List Triple) (t:Triple),Valid l → isTriple t = true → ∀ x,x ∈ putT l t ↔ x = t ∨ x ∈ l
 | [],t,_,_,x=>by simp [putT]
 | y :: l,t,hl,ht,x=>by
  have ih:=putT_mem l t (fun z hz=>hl z (by simp [hz])) ht x
  rw [putT]
  split
  ·
   rw [List.mem_cons,ih,List.mem_cons]
   constructor
   ·
    rintro (h | h | h)
    ·
     exact .inr (.inl h)
    ·
     exact .inl h
    ·
     exact .inr (.inr h)
   ·
    rintro (h | h | h)
    ·
     exact .inr (.inl h)
    ·
     exact .inl h
    ·
     exact .inr (.inr h)
  ·
   split
   ·
    rename_i h0
    have:y = t:=(cmpT_eq (hl y (by simp)) ht).1 h0
    subst this
    constructor
    ·
     intro h;exact .inr h
    ·
     rintro (h | h)
     ·
      subst h;simp
     ·
      exact h
   ·
    simp [or_comm,or_left_comm]
theorem putT_rise:∀ (l:List Triple) (t:Triple),Valid l → isTriple t = true → Rise l → Rise (putT l t)
 | [],t,_,_,_=>by simp [putT]
 | y :: l,t,hl,ht,hr=>by
  obtain ⟨h1,h2⟩:=List.pairwise_cons.1 hr
  have ih:=putT_rise l t (fun z hz=>hl z (by simp [hz])) ht h2
  rw [putT]
  split
  ·
   rename_i h
   refine List.pairwise_cons.2 ⟨fun z hz=>?_,ih⟩
   rcases (putT_mem l t (fun z hz=>hl z (by simp [hz])) ht z).1 hz with e | e
   ·
    subst e;exact h
   ·
    exact h1 z e
  ·
   split
   ·
    exact hr
   ·
    rename_i hn h0
    have hty:ltT t y:=by
     rcases ltT_or t y with e | e | e
     ·
      exact e
     ·
      exact absurd ((cmpT_zero y t).2 e.symm) h0
     ·
      exact absurd e hn
    refine List.pairwise_cons.2 ⟨fun z hz=>?_,hr⟩
    rcases List.mem_cons.1 hz with e | e
    ·
     subst e;exact hty
    ·
     exact ltT_trans hty (h1 z e)
theorem fold_put:∀ (l acc:List Triple),Valid l → Valid acc → Rise acc → Rise (l.foldl putT acc)∧∀ x,x ∈ l.foldl putT acc ↔ x ∈ acc ∨ x ∈ l
 | [],acc,_,_,ha=>⟨ha,fun x=>by simp⟩
 | t :: l,acc,hl,hv,ha=>by
  have ht:=hl t (by simp)
  have hv2:Valid (putT acc t):=fun x hx=>by
   rcases (putT_mem acc t hv ht x).1 hx with e | e
   ·
    subst e;exact ht
   ·
    exact hv x e
  obtain ⟨h1,h2⟩:=fold_put l (putT acc t) (fun z hz=>hl z (by simp [hz])) hv2 (putT_rise acc t hv ht ha)
  refine ⟨h1,fun x=>?_⟩
  rw [List.foldl_cons,h2,putT_mem acc t hv ht,List.mem_cons]
  constructor
  ·
   rintro ((h | h) | h)
   ·
    exact .inr (.inl h)
   ·
    exact .inl h
   ·
    exact .inr (.inr h)
  ·
   rintro (h | h | h)
   ·
    exact .inl (.inr h)
   ·
    exact .inl (.inl h)
   ·
    exact .inr h
theorem sortT_rise {l:List Triple} (h:Valid l):Rise (sortT l):=(fold_put l [] h (fun _ hx=>by cases hx) List.Pairwise.nil).1
theorem sortT_mem {l:List Triple} (h:Valid l) (x:Triple):x ∈ sortT l ↔ x ∈ l:=by
 unfold sortT
 rw [(fold_put l [] h (fun _ hx=>by cases hx) List.Pairwise.nil).2 x]
 simp
theorem sortT_eq {l a:List Triple} (h:Valid l) (hr:Rise a) (hm:∀ x,x ∈ a ↔ x ∈ l):a = sortT l:=
 rise_eq hr (sortT_rise h) fun x=>(hm x).trans (sortT_mem h x).symm
def compactT:List Triple → List Triple
 | []=>[]
 | x :: l=>x :: (go x l)
where go (x : Triple) : List Triple → List Triple
  | [] => []
  | y :: l => if cmpT y x = 0 then go y l else y :: go y l
theorem compact_go:∀ (l:List Triple) (x:Triple),Valid (x :: l) → (x :: l).Pairwise (fun a b=>¬ ltT b a) →
  (∀ z,z ∈ compactT.go x l → z ∈ l∧ltT x z)∧(∀ z,z ∈ l → z = x ∨ z ∈ compactT.go x l)∧Rise (compactT.go x l)
 | [],x,_,_=>by simp [compactT.go]
 | y :: l,x,hv,hs=>by
  obtain ⟨h1,h2⟩:=List.pairwise_cons.1 hs
  have hvx:=hv x (by simp)
  have hvy:=hv y (by simp)
  obtain ⟨i1,i2,i3⟩:=compact_go l y (fun z hz=>hv z (List.mem_cons_of_mem _ hz)) h2
  rw [compactT.go]
  by_cases h0:cmpT y x = 0
  ·
   have e:=(cmpT_eq hvy hvx).1 h0
   subst e
   rw [if_pos h0]
   refine ⟨fun z hz=>⟨List.mem_cons_of_mem _ (i1 z hz).1,(i1 z hz).2⟩,fun z hz=>?_,i3⟩
   rcases List.mem_cons.1 hz with e | e
   ·
    exact .inl e
   ·
    exact i2 z e
  ·
   rw [if_neg h0]
   have hxy:ltT x y:=by
    rcases ltT_or x y with e | e | e
    ·
     exact e
    ·
     exact absurd ((cmpT_zero y x).2 e.symm) h0
    ·
     exact absurd e (h1 y (by simp))
   refine ⟨fun z hz=>?_,fun z hz=>?_,List.pairwise_cons.2 ⟨fun z hz=>(i1 z hz).2,i3⟩⟩
   ·
    rcases List.mem_cons.1 hz with e | e
    ·
     subst e;exact ⟨by simp,hxy⟩
    ·
     exact ⟨List.mem_cons_of_mem _ (i1 z e).1,ltT_trans hxy (i1 z e).2⟩
   ·
    rcases List.mem_cons.1 hz with e | e
    ·
     subst e;exact .inr (by simp)
    ·
     rcases i2 z e with e | e
     ·
      subst e;exact .inr (by simp)
     ·
      exact .inr (List.mem_cons_of_mem _ e)
theorem compact_sorted {l a:List Triple} (hv:Valid l) (hp:a.Perm l) (hs:a.Pairwise fun x y=>¬ ltT y x):compactT a = sortT l:=by
 refine sortT_eq hv ?_ ?_
 ·
  cases a with
  | nil=>exact List.Pairwise.nil
  | cons x t =>
   obtain ⟨i1,i2,i3⟩:=compact_go t x (fun z hz=>hv z (hp.mem_iff.1 hz)) hs
   exact List.pairwise_cons.2 ⟨fun z hz=>(i1 z hz).2,i3⟩
 ·
  intro z
  rw [← hp.mem_iff]
  cases a with
  | nil=>simp [compactT]
  | cons x t =>
   obtain ⟨i1,i2,i3⟩:=compact_go t x (fun z hz=>hv z (hp.mem_iff.1 hz)) hs
   rw [compactT,List.mem_cons,List.mem_cons]
   constructor
   ·
    rintro (h | h)
    ·
     exact .inl h
    ·
     exact .inr (i1 z h).1
   ·
    rintro (h | h)
    ·
     exact .inl h
    ·
     exact i2 z h
end Go.Proofs.YtnplommdgfgboaaGreatDoor.SortP
namespace Go.Proofs.YtnplommdgfgboaaGreatDoor.OrdG
open Go.Lib TermPure LinesPure SortP Round
structure Ord {α:Type} (lt:α → α → Prop) (V:α → Prop):Prop where
 irrefl:∀ a,¬ lt a a
 trans:∀ a b c,lt a b → lt b c → lt a c
 tri:∀ a b,V a → V b → lt a b ∨ a = b ∨ lt b a
section
variable {α : Type} {lt : α → α → Prop} {V : α → Prop}
theorem Ord.uniq (O:Ord lt V):∀ {a b:List α},a.Pairwise lt → b.Pairwise lt → (∀ x,x ∈ a ↔ x ∈ b) → a = b
 | [],[],_,_,_=>rfl
 | [],y :: b,_,_,h=>absurd ((h y).2 (by simp)) (by simp)
 | x :: a,[],_,_,h=>absurd ((h x).1 (by simp)) (by simp)
 | x :: a,y :: b,ha,hb,h=>by
  have ha':=List.pairwise_cons.1 ha
  have hb':=List.pairwise_cons.1 hb
  have hxy:x = y:=by
   have h1:=(h x).1 (by simp)
   have h2:=(h y).2 (by simp)
   rcases List.mem_cons.1 h1 with e | h1
   ·
    exact e
   ·
    rcases List.mem_cons.1 h2 with e | h2
    ·
     exact e.symm
    ·
     exact absurd (O.trans _ _ _ (ha'.1 y h2) (hb'.1 x h1)) (O.irrefl x)
  subst hxy
  have:=O.uniq ha'.2 hb'.2 (fun z=>by
   have hz:=h z
   simp only [List.mem_cons] at hz
   constructor
   ·
    intro hm
    rcases hz.1 (.inr hm) with e | h3
    ·
     subst e;exact absurd (ha'.1 z hm) (O.irrefl z)
    ·
     exact h3
   ·
    intro hm
    rcases hz.2 (.inr hm) with e | h3
    ·
     subst e;exact absurd (hb'.1 z hm) (O.irrefl z)
    ·
     exact h3)
  rw [this]
variable [DecidableEq α]
def compactE:List α → List α
 | []=>[]
 | [x]=>[x]
 | x :: y :: l=>if x = y then compactE (y :: l) else x :: compactE (y :: l)
theorem compactE_mem:∀ (l:List α) (x:α),x ∈ compactE l ↔ x ∈ l
 | [],x=>Iff.rfl
 | [y],x=>Iff.rfl
 | y :: z :: l,x=>by
  rw [compactE]
  have ih:=compactE_mem (z :: l) x
  by_cases h:y = z
  ·
   rw [if_pos h,ih,h]
   simp
  ·
   rw [if_neg h,List.mem_cons,ih,List.mem_cons (a:=x) (b:=y)]
theorem compactE_rise (O:Ord lt V):∀ (l:List α),(∀ x ∈ l,V x) → l.Pairwise (fun a b=>¬ lt b a) → (compactE l).Pairwise lt
 | [],_,_=>List.Pairwise.nil
 | [x],_,_=>by simp [compactE]
 | x :: y :: l,hv,hp=>by
  have hp':=List.pairwise_cons.1 hp
  have ih:=compactE_rise O (y :: l) (fun z hz=>hv z (by simp [List.mem_cons.1 hz])) hp'.2
  rw [compactE]
  by_cases h:x = y
  ·
   rw [if_pos h];exact ih
  ·
   rw [if_neg h,List.pairwise_cons]
   refine ⟨fun z hz=>?_,ih⟩
   rw [compactE_mem] at hz
   have hxy:lt x y:=by
    rcases O.tri x y (hv x (by simp)) (hv y (by simp)) with h1 | h1 | h1
    ·
     exact h1
    ·
     exact absurd h1 h
    ·
     exact absurd h1 (hp'.1 y (by simp))
   rcases List.mem_cons.1 hz with rfl | hz
   ·
    exact hxy
   ·
    have hp2:=List.pairwise_cons.1 hp'.2
    rcases O.tri y z (hv y (by simp)) (hv z (by simp [hz])) with h1 | h1 | h1
    ·
     exact O.trans _ _ _ hxy h1
    ·
     rw [← h1];exact hxy
    ·
     exact absurd h1 (hp2.1 z hz)
def putE (ltb:α → α → Bool):List α → α → List α
 | [],t=>[t]
 | x :: l,t=>if ltb x t = true then x :: putE ltb l t else if x = t then x :: l else t :: x :: l
theorem putE_mem (ltb:α → α → Bool):∀ (l:List α) (t x:α),x ∈ putE ltb l t ↔ x = t ∨ x ∈ l
 | [],t,x=>by simp [putE]
 | y :: l,t,x=>by
  rw [putE]
  split
  ·
   rw [List.mem_cons,putE_mem ltb l t x,List.mem_cons]
   constructor
   ·
    rintro (h | h | h)
    ·
     exact .inr (.inl h)
    ·
     exact .inl h
    ·
     exact .inr (.inr h)
   ·
    rintro (h | h | h)
    ·
     exact .inr (.inl h)
    ·
     exact .inl h
    ·
     exact .inr (.inr h)
  ·
   split
   ·
    rename_i h
    subst h
    simp
   ·
    simp
theorem putE_rise (O:Ord lt V) (ltb:α → α → Bool) (hb:∀ x y,ltb x y = true ↔ lt x y):∀ (l:List α) (t:α),(∀ x ∈ l,V x) → V t → l.Pairwise lt → (putE ltb l t).Pairwise lt
 | [],t,_,_,_=>by simp [putE]
 | y :: l,t,hv,ht,hp=>by
  have hp':=List.pairwise_cons.1 hp
  rw [putE]
  split
  ·
   rename_i h
   rw [List.pairwise_cons]
   refine ⟨fun z hz=>?_,putE_rise O ltb hb l t (fun z hz=>hv z (by simp [hz])) ht hp'.2⟩
   rcases (putE_mem ltb l t z).1 hz with rfl | hz
   ·
    exact (hb _ _).1 h
   ·
    exact hp'.1 z hz
  ·
   rename_i h
   split
   ·
    exact hp
   ·
    rename_i hne
    have hty:lt t y:=by
     rcases O.tri t y ht (hv y (by simp)) with h1 | h1 | h1
     ·
      exact h1
     ·
      exact absurd h1.symm hne
     ·
      exact absurd ((hb _ _).2 h1) h
    rw [List.pairwise_cons]
    refine ⟨fun z hz=>?_,hp⟩
    rcases List.mem_cons.1 hz with rfl | hz
    ·
     exact hty
    ·
     exact O.trans _ _ _ hty (hp'.1 z hz)
end
def ltTm (a b:Term):Prop:=shown a < shown b
instance (a b:Term):Decidable (ltTm a b):=inferInstanceAs (Decidable (shown a < shown b))
theorem ord_term:Ord ltTm (fun t=>is t = true):=
 ⟨fun a=>List.lt_irrefl _,fun a b c h1 h2=>List.lt_trans h1 h2,fun a b ha hb=>by
  by_cases h1:shown a < shown b
  ·
   exact .inl h1
  ·
   by_cases h2:shown b < shown a
   ·
    exact .inr (.inr h2)
   ·
    exact .inr (.inl (shown_inj ha hb (List.le_antisymm (List.not_lt.1 h2) (List.not_lt.1 h1))))⟩
theorem cmpTm_lt (a b:Term):cmpTm a b < 0 ↔ ltTm a b:=cmpL_neg _ _
def inTriples (T:List Triple):List Term:=T.flatMap fun t=>[t.s,t.p,t.o]
def termsT (T:List Triple):List Term:=(inTriples T).foldl (putE fun a b=>decide (ltTm a b)) []
theorem foldE (l acc:List Term) (hl:∀ x ∈ l,is x = true) (ha:∀ x ∈ acc,is x = true) (hr:acc.Pairwise ltTm) :
  (l.foldl (putE fun a b=>decide (ltTm a b)) acc).Pairwise ltTm∧∀ x,x ∈ l.foldl (putE fun a b=>decide (ltTm a b)) acc ↔ x ∈ acc ∨ x ∈ l:=by
 induction l generalizing acc with
 | nil=>exact ⟨hr,fun x=>by simp⟩
 | cons t l ih =>
  have ht:=hl t (by simp)
  have h1:∀ x,x ∈ putE (fun a b=>decide (ltTm a b)) acc t ↔ x = t ∨ x ∈ acc:=putE_mem _ acc t
  obtain ⟨h2,h3⟩:=ih (putE (fun a b=>decide (ltTm a b)) acc t) (fun x hx=>hl x (by simp [hx])) (fun x hx=>((h1 x).1 hx).elim (fun e=>by rw [e];exact ht) (ha x)) (putE_rise ord_term _ (fun x y=>decide_eq_true_iff) acc t ha ht hr)
  refine ⟨h2,fun x=>?_⟩
  rw [List.foldl_cons,h3,h1]
  simp only [List.mem_cons]
  constructor
  ·
   rintro ((h | h) | h)
   ·
    exact .inr (.inl h)
   ·
    exact .inl h
   ·
    exact .inr (.inr h)
  ·
   rintro (h | h | h)
   ·
    exact .inl (.inr h)
   ·
    exact .inl (.inl h)
   ·
    exact .inr h
theorem inTriples_is {T:List Triple} (h:Valid T):∀ x ∈ inTriples T,is x = true:=by
 intro x hx
 obtain ⟨t,ht,hx⟩:=List.mem_flatMap.1 hx
 have:=h t ht
 unfold isTriple at this
 simp only [Bool.and_eq_true] at this
 simp at hx
 rcases hx with rfl | rfl | rfl
 ·
  exact this.1
 ·
  exact this.2.1
 ·
  exact this.2.2.1
theorem termsT_rise {T:List Triple} (h:Valid T):(termsT T).Pairwise ltTm:=(foldE _ [] (inTriples_is h) (by simp) List.Pairwise.nil).1
theorem termsT_mem {T:List Triple} (h:Valid T) (x:Term):x ∈ termsT T ↔ x ∈ inTriples T:=by
 rw [termsT,(foldE _ [] (inTriples_is h) (by simp) List.Pairwise.nil).2]
 simp
theorem termsT_is {T:List Triple} (h:Valid T):∀ x ∈ termsT T,is x = true:=fun x hx=>inTriples_is h x ((termsT_mem h x).1 hx)
theorem compact_terms {T:List Triple} (h:Valid T) {l:List Term} (hp:l.Perm (inTriples T)) (hs:l.Pairwise fun a b=>¬ ltTm b a):compactE l = termsT T:=by
 have hv:∀ x ∈ l,is x = true:=fun x hx=>inTriples_is h x (hp.mem_iff.1 hx)
 refine ord_term.uniq (compactE_rise ord_term l hv hs) (termsT_rise h) (fun x=>?_)
 rw [compactE_mem,termsT_mem h,hp.mem_iff]
def idOf (l:List Term) (t:Term):Nat:=if t ∈ l then l.idxOf t + 1 else 0
structure Ids where
 a:Nat
 b:Nat
 c:Nat
deriving DecidableEq
def idsOf (l:List Term) (t:Triple):Ids:=⟨idOf l t.s,idOf l t.p,idOf l t.o⟩
def idsT (T:List Triple):List Ids:=T.map (idsOf (termsT T))
def ltI (x y:Ids):Prop:=x.a < y.a ∨ (x.a = y.a∧(x.b < y.b ∨ (x.b = y.b∧x.c < y.c)))
theorem ord_ids:Ord ltI (fun _=>True):=
 ⟨fun a h=>by unfold ltI at h;omega,fun a b c h1 h2=>by unfold ltI at *;omega,fun a b _ _=>by
  unfold ltI
  by_cases h:a = b
  ·
   exact .inr (.inl h)
  ·
   have:¬ (a.a = b.a∧a.b = b.b∧a.c = b.c):=fun ⟨h1,h2,h3⟩=>h (by cases a;cases b;simp_all)
   omega⟩
theorem idx_lt {l:List Term} (hr:l.Pairwise ltTm) (hv:∀ x ∈ l,is x = true) {x y:Term} (hx:x ∈ l) (hy:y ∈ l):idOf l x < idOf l y ↔ ltTm x y:=by
 unfold idOf
 rw [if_pos hx,if_pos hy]
 have ix:=List.idxOf_lt_length_of_mem hx
 have iy:=List.idxOf_lt_length_of_mem hy
 have ex:l[l.idxOf x] = x:=List.getElem_idxOf ix
 have ey:l[l.idxOf y] = y:=List.getElem_idxOf iy
 constructor
 ·
  intro h
  have:=List.pairwise_iff_getElem.1 hr (l.idxOf x) (l.idxOf y) ix iy (by omega)
  rwa [ex,ey] at this
 ·
  intro h
  by_cases h1:l.idxOf x < l.idxOf y
  ·
   omega
  ·
   rcases Nat.lt_or_eq_of_le (Nat.not_lt.1 h1) with h2 | h2
   ·
    have:=List.pairwise_iff_getElem.1 hr (l.idxOf y) (l.idxOf x) iy ix h2
    rw [ex,ey] at this
    exact absurd (List.lt_trans h this) (List.lt_irrefl _)
   ·
    have:x = y:=by rw [← ex,← ey];congr 1;exact h2.symm
    rw [this] at h
    exact absurd h (List.lt_irrefl _)
theorem idx_eq {l:List Term} {x y:Term} (hx:x ∈ l) (hy:y ∈ l):idOf l x = idOf l y ↔ x = y:=by
 constructor
 ·
  intro h
  unfold idOf at h
  rw [if_pos hx,if_pos hy] at h
  have ix:=List.idxOf_lt_length_of_mem hx
  have iy:=List.idxOf_lt_length_of_mem hy
  have ex:l[l.idxOf x] = x:=List.getElem_idxOf ix
  have ey:l[l.idxOf y] = y:=List.getElem_idxOf iy
  rw [← ex,← ey]
  congr 1
  omega
 ·
  intro h;rw [h]
theorem mem_three {T:List Triple} {t:Triple} (h:t ∈ T):t.s ∈ inTriples T∧t.p ∈ inTriples T∧t.o ∈ inTriples T:=
 ⟨List.mem_flatMap.2 ⟨t,h,by simp⟩,List.mem_flatMap.2 ⟨t,h,by simp⟩,List.mem_flatMap.2 ⟨t,h,by simp⟩⟩
theorem ids_lt {T:List Triple} (hv:Valid T) {x y:Triple} (hx:x ∈ T) (hy:y ∈ T) (h:ltT x y):ltI (idsOf (termsT T) x) (idsOf (termsT T) y):=by
 obtain ⟨x1,x2,x3⟩:=mem_three hx
 obtain ⟨y1,y2,y3⟩:=mem_three hy
 have hr:=termsT_rise hv
 have hi:=termsT_is hv
 have m:=fun z=>(termsT_mem hv z).2
 have v:=fun z hz=>inTriples_is hv z hz
 rw [ltT_iff] at h
 unfold ltI idsOf
 dsimp only
 rw [idx_lt hr hi (m _ x1) (m _ y1),idx_lt hr hi (m _ x2) (m _ y2),idx_lt hr hi (m _ x3) (m _ y3),idx_eq (m _ x1) (m _ y1),idx_eq (m _ x2) (m _ y2)]
 rcases h with h | ⟨e,h | ⟨e2,h⟩⟩
 ·
  exact .inl h
 ·
  exact .inr ⟨shown_inj (v _ x1) (v _ y1) e,.inl h⟩
 ·
  exact .inr ⟨shown_inj (v _ x1) (v _ y1) e,.inr ⟨shown_inj (v _ x2) (v _ y2) e2,h⟩⟩
theorem idsT_rise {T:List Triple} (hv:Valid T) (hr:Rise T):(idsT T).Pairwise ltI:=by
 unfold idsT
 rw [List.pairwise_map]
 exact hr.imp_of_mem fun hx hy h=>ids_lt hv hx hy h
end Go.Proofs.YtnplommdgfgboaaGreatDoor.OrdG
namespace Go.Proofs.YtnplommdgfgboaaGreatDoor.Ref4
open Go.RowKit Go.Lib B Utf TermPure LinesPure
theorem mkS_get (l:List UInt8) (k:Nat) (h:k < (mkS l).size) (h':k < l.length):(mkS l)[k] = l[k]:=rfl
theorem alnum_calls (b:UInt8) (w:World) :
  Calls Tryz.prog 156 #[.int .u8 b.toNat] w fun e w'=>e = .returned (.bool (alnum b.toNat))∧w = w':=by
 have h:=b.toNat_lt
 unfold alnum
 generalize b.toNat = n at *
 go_enter Tryz.func156,Tryz.ntmps156
 go_wp2
 all_goals go_ret
 all_goals exact ⟨ret_bool (by rw [Bool.eq_iff_iff];simp;omega),rfl⟩
set_option maxHeartbeats 800000 in
theorem label_calls (l:List UInt8) (hl:l.length ≤ 140737488355328) (w:World) :
  Calls Tryz.prog 125 #[.string (mkS l)] w fun e w'=>e = .returned (.bool (isLabel l))∧w = w':=by
 have hsz:=mkS_size l
 go_enter Tryz.func125,Tryz.ntmps125
 go_wp2
 go_loopw [3] (fun vi wr=>∃ k:Nat,k ≤ l.length∧vi = .int .i64 k∧wr = w∧Hid ((l.take k).all (fun b=>alnum b.toNat) = true)) (fun vi _=>l.length - (intOf vi).toNat)
 case atStart=>exact ⟨0,by omega,rfl,rfl,Lib.hid rfl⟩
 case round =>
  obtain ⟨k,hk,rfl,rfl,HA⟩:=hrel
  by_cases hlt:k < l.length
  ·
   have hd:decide (k < l.length) = true:=decide_eq_true hlt
   have ik:(k:Int) < (l.length:Int):=by omega
   have ik0:(0:Int) ≤ (k:Int):=by omega
   obtain ⟨b,hb0⟩:∃ b,l[k] = b:=⟨_,rfl⟩
   have hks:k < (mkS l).size:=by rw [hsz];exact hlt
   have hg:(mkS l)[k]'hks = b:=(mkS_get l k hks hlt).trans hb0
   have hgl:Hid (l.take (k + 1) = l.take k ++ [b]):=Lib.hid (by rw [List.take_succ_eq_append_getElem hlt,hb0])
   have HN:Hid (alnum b.toNat = false → isLabel l = false):=Lib.hid (fun h=>by
    have:(l.all fun b=>alnum b.toNat) = false:=by
     rw [List.all_eq_false]
     exact ⟨b,by rw [← hb0];exact List.getElem_mem hlt,by simp [h]⟩
    rw [isLabel,this]
    simp)
   clear hb0
   go_wp2_with fail
   refine (alnum_calls b _).mono ?_
   rintro e w1 ⟨rfl,rfl⟩
   cases hb:alnum b.toNat with
   | true =>
    go_wp2
    go_roundw
    case rel=>exact ⟨k + 1,by omega,by go_num,by first | rfl | trivial,Lib.hid (by rw [hgl.out,List.all_append,HA.out];simp [hb])⟩
    case measure=>simp [intOf];omega
   | false =>
    have HF:=Lib.hid (HN.out hb)
    go_wp2
    go_ret
    exact ⟨ret_bool HF.out.symm,rfl⟩
  ·
   obtain rfl:k = l.length:=by omega
   rw [List.take_length] at HA
   have HF:Hid (isLabel l = (decide (1 ≤ l.length) && decide (l.length ≤ 8))):=Lib.hid (by
    rw [isLabel,HA.out]
    cases l <;> simp)
   by_cases c1:1 ≤ l.length
   ·
    have d1:decide ((1:Int) ≤ (l.length:Int)) = true:=decide_eq_true (by omega)
    by_cases c8:l.length ≤ 8
    ·
     have d8:decide ((l.length:Int) ≤ 8) = true:=decide_eq_true (by omega)
     have HF':=Lib.hid (HF.out.trans (by simp [c1,c8]:_ = true))
     go_wp2
     go_ret
     exact ⟨ret_bool HF'.out.symm,rfl⟩
    ·
     have d8:decide ((l.length:Int) ≤ 8) = false:=decide_eq_false (by omega)
     have HF':=Lib.hid (HF.out.trans (by simp [c8]:_ = false))
     go_wp2
     go_ret
     exact ⟨ret_bool HF'.out.symm,rfl⟩
   ·
    have d1:decide ((1:Int) ≤ (l.length:Int)) = false:=decide_eq_false (by omega)
    have HF':=Lib.hid (HF.out.trans (by simp [c1]:_ = false))
    go_wp2
    go_ret
    exact ⟨ret_bool HF'.out.symm,rfl⟩
theorem iriRune_plain (n:Nat):iriRune n = true ↔ (33 ≤ n∧n ≤ 126∧n ≠ 34∧n ≠ 60∧n ≠ 62∧n ≠ 92∧n ≠ 94∧n ≠ 96∧n ≠ 123∧n ≠ 124∧n ≠ 125) ∨ 160 ≤ n:=by
 unfold iriRune odd
 simp
 omega
set_option maxHeartbeats 800000 in
theorem iriRune_calls (n:Nat) (hn:n ≤ 1114111) (w:World) :
  Calls Tryz.prog 155 #[.int .i32 n] w fun e w'=>e = .returned (.bool (iriRune n))∧w = w':=by
 have hp:=Lib.hid (iriRune_plain n)
 go_enter Tryz.func155,Tryz.ntmps155
 go_wp2
 all_goals go_ret
 all_goals simp only [beq_iff_eq,beq_eq_false_iff_ne,ne_eq,Bool.not_eq_true] at *
 all_goals exact ⟨ret_bool (by rw [Bool.eq_iff_iff,hp.out];simp;omega),by first | rfl | trivial⟩
set_option maxHeartbeats 1600000 in
theorem lang_calls (l:List UInt8) (hl:l.length ≤ 140737488355328) (w:World) :
  Calls Tryz.prog 126 #[.string (mkS l)] w fun e w'=>e = .returned (.bool (isLang l))∧Below w.heap.size w w':=by
 have hsz:=mkS_size l
 go_enter Tryz.func126,Tryz.ntmps126
 go_wp2
 go_loopw [3,4,5] (fun vp vm vi wr=>∃ k p m:Nat,k ≤ l.length∧vi = .int .i64 k∧vp = .int .i64 p∧vm = .int .i64 m∧p ≤ k∧m ≤ 8∧Hid (Below w.heap.size w wr)∧Hid (langGo false 0 l = langGo (decide (0 < p)) m (l.drop k))) (fun _ _ vi _=>l.length - (intOf vi).toNat)
 case atStart=>exact ⟨0,0,0,by omega,rfl,rfl,rfl,by omega,by omega,Lib.hid (Below.refl _ _),Lib.hid (by simp)⟩
 case round =>
  obtain ⟨k,p,m,hk,rfl,rfl,rfl,hpk,hm,HW,HL⟩:=hrel
  by_cases hlt:k < l.length
  ·
   have hd:decide (k < l.length) = true:=decide_eq_true hlt
   have ik:(k:Int) < (l.length:Int):=by omega
   have ik0:(0:Int) ≤ (k:Int):=by omega
   obtain ⟨b,hb0⟩:∃ b,l[k] = b:=⟨_,rfl⟩
   have hks:k < (mkS l).size:=by rw [hsz];exact hlt
   have hg:(mkS l)[k]'hks = b:=(mkS_get l k hks hlt).trans hb0
   have HD:Hid (l.drop k = b :: l.drop (k + 1)):=Lib.hid (by rw [List.drop_eq_getElem_cons hlt,hb0])
   rw [HD.out] at HL
   clear hb0 HD
   have hbl:=b.toNat_lt
   generalize hB:b.toNat = B at *
   go_wp2_with fail
   go_cut [6,7] (fun v6 v7 wx=>v6 = .bool (decide (97 ≤ B) && decide (B ≤ 122))∧v7 = .bool (decide (48 ≤ B) && decide (B ≤ 57))∧Hid (Below w.heap.size w wx))
   case first =>
    clear HL hd
    by_cases a1:97 ≤ B
    ·
     have e1:decide (97 ≤ (B:Int)) = true:=decide_eq_true (by omega)
     have e3:decide (48 ≤ (B:Int)) = true:=decide_eq_true (by omega)
     have e4:decide ((B:Int) ≤ 57) = false:=decide_eq_false (by omega)
     by_cases a2:B ≤ 122
     ·
      have e2:decide ((B:Int) ≤ 122) = true:=decide_eq_true (by omega)
      go_quiet (fail)
      go_wp2
      go_meet
      exact ⟨by simp;omega,by simp;omega,Lib.hid (bel_drewN HW.out _)⟩
     ·
      have e2:decide ((B:Int) ≤ 122) = false:=decide_eq_false (by omega)
      go_quiet (fail)
      go_wp2
      go_meet
      exact ⟨by simp;omega,by simp;omega,Lib.hid (bel_drewN HW.out _)⟩
    ·
     have e1:decide (97 ≤ (B:Int)) = false:=decide_eq_false (by omega)
     by_cases a3:48 ≤ B
     ·
      have e3:decide (48 ≤ (B:Int)) = true:=decide_eq_true (by omega)
      by_cases a4:B ≤ 57
      ·
       have e4:decide ((B:Int) ≤ 57) = true:=decide_eq_true (by omega)
       go_quiet (fail)
       go_wp2
       go_meet
       exact ⟨by simp;omega,by simp;omega,Lib.hid (bel_drewN HW.out _)⟩
      ·
       have e4:decide ((B:Int) ≤ 57) = false:=decide_eq_false (by omega)
       go_quiet (fail)
       go_wp2
       go_meet
       exact ⟨by simp;omega,by simp;omega,Lib.hid (bel_drewN HW.out _)⟩
     ·
      have e3:decide (48 ≤ (B:Int)) = false:=decide_eq_false (by omega)
      go_quiet (fail)
      go_wp2
      go_meet
      exact ⟨by simp;omega,by simp;omega,Lib.hid (bel_drewN HW.out _)⟩
   case rest =>
    obtain ⟨rfl,rfl,HW2⟩:=hcut
    have w1:IntKind.i64.wrap ((m:Int) + 1) = ((m + 1:Nat):Int):=by rw [IntKind.wrap_i64];omega
    have w2:IntKind.i64.wrap ((p:Int) + 1) = ((p + 1:Nat):Int):=by rw [IntKind.wrap_i64];omega
    have hb45:(b = 45) ↔ B = 45:=by rw [← hB];exact ⟨fun h=>by rw [h];rfl,fun h=>UInt8.toNat_inj.1 h⟩
    rw [langGo] at HL
    rw [hB] at HL
    by_cases c45:B = 45
    ·
     have d45:((B:Int) == 45) = true:=by rw [beq_iff_eq];omega
     rw [if_pos (hb45.2 c45)] at HL
     have s1:(decide (97 ≤ B) && decide (B ≤ 122)) = false:=by simp;omega
     have s2:(decide (48 ≤ B) && decide (B ≤ 57)) = false:=by simp;omega
     rw [s1,s2]
     clear hb45 s1 s2
     by_cases cm:0 < m
     ·
      have dm:decide (0 < m) = true:=decide_eq_true cm
      rw [dm] at HL
      go_wp2
      go_roundw
      case rel=>exact ⟨k + 1,p + 1,0,by omega,by go_num,by go_num,rfl,by omega,by omega,HW2,Lib.hid (by rw [HL.out];simp)⟩
      case measure=>simp [intOf];omega
     ·
      have dm:decide (0 < m) = false:=decide_eq_false cm
      rw [dm] at HL
      have HF:Hid (isLang l = false):=Lib.hid (by rw [isLang,HL.out];simp)
      go_wp2
      go_ret
      exact ⟨ret_bool HF.out.symm,HW2.out⟩
    ·
     have d45:((B:Int) == 45) = false:=by rw [beq_eq_false_iff_ne];omega
     rw [if_neg (fun h=>c45 (hb45.1 h))] at HL
     clear hb45
     have w8:IntKind.i64.wrap ((m:Int) + 1) = ((m + 1:Nat):Int):=w1
     generalize (decide (97 ≤ B) && decide (B ≤ 122)) = sm at *
     generalize (decide (48 ≤ B) && decide (B ≤ 57)) = dg at *
     by_cases good:(sm || (decide (0 < p) && dg)) = true
     ·
      rw [if_pos good] at HL
      by_cases c8:m < 8
      ·
       have d8:decide (8 < ((m + 1:Nat):Int)) = false:=decide_eq_false (by omega)
       have HL':Hid (langGo false 0 l = langGo (decide (0 < p)) (m + 1) (l.drop (k + 1))):=Lib.hid (by rw [HL.out,decide_eq_true c8];rfl)
       cases sm with
       | true =>
        clear good
        go_wp2
        go_roundw
        case rel=>exact ⟨k + 1,p,m + 1,by omega,by go_num,rfl,by go_num,by omega,by omega,HW2,HL'⟩
        case measure=>simp [intOf];omega
       | false =>
        rw [Bool.false_or,Bool.and_eq_true] at good
        obtain ⟨gp,rfl⟩:=good
        go_wp2
        go_roundw
        case rel=>exact ⟨k + 1,p,m + 1,by omega,by go_num,rfl,by go_num,by omega,by omega,HW2,HL'⟩
        case measure=>simp [intOf];omega
      ·
       have d8:decide (8 < ((m + 1:Nat):Int)) = true:=decide_eq_true (by omega)
       have HF:Hid (isLang l = false):=Lib.hid (by rw [isLang,HL.out,decide_eq_false c8];rfl)
       cases sm with
       | true =>
        clear good
        go_wp2
        go_ret
        exact ⟨ret_bool HF.out.symm,HW2.out⟩
       | false =>
        rw [Bool.false_or,Bool.and_eq_true] at good
        obtain ⟨gp,rfl⟩:=good
        go_wp2
        go_ret
        exact ⟨ret_bool HF.out.symm,HW2.out⟩
     ·
      rw [if_neg good] at HL
      have HF:Hid (isLang l = false):=Lib.hid (by rw [isLang,HL.out];rfl)
      cases sm with
      | true=>exact absurd rfl good
      | false =>
       cases dg with
       | false =>
        clear good
        go_wp2
        go_ret
        exact ⟨ret_bool HF.out.symm,HW2.out⟩
       | true =>
        have gp:decide (0 < p) = false:=by
         cases h:decide (0 < p) with
         | false=>rfl
         | true=>rw [h] at good;exact absurd rfl good
        clear good
        go_wp2
        go_ret
        exact ⟨ret_bool HF.out.symm,HW2.out⟩
  ·
   obtain rfl:k = l.length:=by omega
   rw [List.drop_length] at HL
   have HF:Hid (isLang l = (decide (0 < m) && decide (l.length ≤ 16))):=Lib.hid (by rw [isLang,HL.out,langGo])
   clear HL
   by_cases cm:0 < m
   ·
    have dm:decide (0 < m) = true:=decide_eq_true cm
    by_cases c16:l.length ≤ 16
    ·
     have d16:decide ((l.length:Int) ≤ 16) = true:=decide_eq_true (by omega)
     have HF':=Lib.hid (HF.out.trans (by simp [cm,c16]:_ = true))
     go_wp2
     go_ret
     exact ⟨ret_bool HF'.out.symm,HW.out⟩
    ·
     have d16:decide ((l.length:Int) ≤ 16) = false:=decide_eq_false (by omega)
     have HF':=Lib.hid (HF.out.trans (by simp [c16]:_ = false))
     go_wp2
     go_ret
     exact ⟨ret_bool HF'.out.symm,HW.out⟩
   ·
    have dm:decide (0 < m) = false:=decide_eq_false cm
    have HF':=Lib.hid (HF.out.trans (by simp [cm]:_ = false))
    go_wp2
    go_ret
    exact ⟨ret_bool HF'.out.symm,HW.out⟩
end Go.Proofs.YtnplommdgfgboaaGreatDoor.Ref4
namespace Go.Proofs.YtnplommdgfgboaaGreatDoor.Ref5
open Go.RowKit Go.Lib B Ref4 Rd Utf TermPure LinesPure
theorem isPrefixOf_take (p s:List UInt8) (h:p.length ≤ s.length):(s.take p.length == p) = p.isPrefixOf s:=by
 rw [Bool.eq_iff_iff,beq_iff_eq,List.isPrefixOf_iff_prefix,List.prefix_iff_eq_take]
 exact ⟨fun e=>e.symm,fun e=>e.symm⟩
theorem not_prefix (p s:List UInt8) (h:¬ p.length ≤ s.length):p.isPrefixOf s = false:=by
 rw [Bool.eq_false_iff]
 intro e
 rw [List.isPrefixOf_iff_prefix] at e
 exact h e.length_le
set_option maxHeartbeats 800000 in
theorem has_calls (rb:Nat) (s p:List UInt8) (bad:Bool) (hp:p.length ≤ 100) (w:World) (h:At w rb s bad) :
  Calls Tryz.prog 147 #[.pointer (some ⟨rb,0,none⟩),.string (mkS p)] w fun e w'=>e = .returned (.bool (p.isPrefixOf s))∧w = w':=by
 obtain ⟨c0,c1,f0,f1,len⟩:=h
 have z1:=mkS_size s
 have z2:=mkS_size p
 have y1:=Lib.hid (mkS_extract s 0 p.length)
 by_cases hl:p.length ≤ s.length
 ·
  go_enter Tryz.func147,Tryz.ntmps147
  go_wp2
  go_ret
  exact ⟨ret_bool (by rw [y1.out,mkS_toList,mkS_toList,List.drop_zero,Nat.sub_zero];exact isPrefixOf_take p s hl),rfl⟩
 ·
  have hn:=Lib.hid (not_prefix p s hl)
  go_enter Tryz.func147,Tryz.ntmps147
  go_wp2
  go_ret
  exact ⟨ret_bool hn.out.symm,rfl⟩
theorem fail_calls (rb:Nat) (s:List UInt8) (bad:Bool) (w:World) (h:At w rb s bad) :
  Calls Tryz.prog 190 #[.pointer (some ⟨rb,0,none⟩)] w fun e w'=>e = .returned (.tuple #[])∧Step w w' rb [] true:=by
 have h':=h
 obtain ⟨c0,c1,f0,f1,len⟩:=h
 go_enter Tryz.func190,Tryz.ntmps190
 go_wp2
 go_end0
 exact ⟨rfl,((Step.refl h').set0 (t:=[]) (by simp)).set1 true⟩
theorem blanks_cons (b:UInt8) (l:List UInt8) (h:LinesPure.blank b = true):blanks (b :: l) = blanks l:=by
 rw [blanks,blanks,List.dropWhile_cons,if_pos h]
theorem blanks_stop (b:UInt8) (l:List UInt8) (h:LinesPure.blank b = false):blanks (b :: l) = b :: l:=by
 rw [blanks,List.dropWhile_cons,h]
 try rfl
theorem blank_yes (b:UInt8) (h:(b.toNat:Int) = 32 ∨ (b.toNat:Int) = 9):LinesPure.blank b = true:=by
 rw [LinesPure.blank,Bool.or_eq_true,beq_iff_eq,beq_iff_eq]
 rcases h with h | h
 ·
  exact .inl (UInt8.toNat_inj.1 (by simp;omega))
 ·
  exact .inr (UInt8.toNat_inj.1 (by simp;omega))
theorem blank_no (b:UInt8) (h:(b.toNat:Int) ≠ 32) (h':(b.toNat:Int) ≠ 9):LinesPure.blank b = false:=by
 rw [LinesPure.blank,Bool.or_eq_false_iff,beq_eq_false_iff_ne,beq_eq_false_iff_ne]
 exact ⟨fun e=>h (by rw [e];rfl),fun e=>h' (by rw [e];rfl)⟩
set_option maxHeartbeats 800000 in
theorem blanks_calls (rb:Nat) (s:List UInt8) (bad:Bool) (w:World) (h:At w rb s bad) :
  Calls Tryz.prog 146 #[.pointer (some ⟨rb,0,none⟩)] w fun e w'=>e = .returned (.tuple #[])∧Step w w' rb (blanks s) bad:=by
 have h':=Lib.hid h
 clear h
 go_enter Tryz.func146,Tryz.ntmps146
 go_wp2
 go_loopg [] s.length (fun k wr=>∃ l:List UInt8,l.length = k∧Hid (Step w wr rb l bad)∧Hid (blanks l = blanks s))
 case atStart=>exact ⟨s,rfl,Lib.hid (Step.refl h'.out),Lib.hid rfl⟩
 case round =>
  obtain ⟨l,hl0,HS,HB⟩:=hrel
  have hl:=Lib.hid hl0
  clear hl0
  obtain ⟨c0,c1,f0,f1,len⟩:=HS.out.at'
  have z:=mkS_size l
  cases l with
  | nil =>
   have z1:(mkS ([]:List UInt8)).toList = []:=mkS_toList []
   clear h'
   go_wp2
   go_end0
   exact ⟨rfl,by rw [← HB.out];exact HS.out⟩
  | cons b t =>
   have z1:(mkS (b :: t)).toList = b :: t:=mkS_toList _
   have hk:0 < (mkS (b :: t)).size:=by rw [z];simp
   have hg:(mkS (b :: t))[0]'hk = b:=rfl
   have hx:(mkS (b :: t)).extract 1 (b :: t).length = mkS t:=by rw [mkS_extract];simp
   have hn:(1:Int) ≤ ((b :: t).length:Int):=by simp;omega
   have hE:(b :: t).isEmpty = false:=rfl
   have hE':¬ (b :: t) = []:=by simp
   have HT:Hid (LinesPure.blank b = true → blanks t = blanks s):=Lib.hid (fun h=>by rw [← HB.out,blanks_cons b t h])
   have HN:Hid (LinesPure.blank b = false → blanks s = b :: t):=Lib.hid (fun h=>by rw [← HB.out,blanks_stop b t h])
   have HL:Hid (t.length ≤ 70368744177664∧t.length < gk):=Lib.hid (by rw [← hl.out];simp at len ⊢;omega)
   generalize hL:(b :: t:List UInt8) = L at *
   have HB1:=Lib.hid hL
   clear h' hL
   by_cases a1:(b.toNat:Int) = 32
   ·
    have e1:((b.toNat:Int) == 32) = true:=by rw [beq_iff_eq];exact a1
    have HB2:=Lib.hid (HT.out (blank_yes b (.inl a1)))
    clear a1
    go_wp2
    go_roundg t.length
    case measure=>exact HL.out.2
    case rel=>exact ⟨t,rfl,Lib.hid (HS.out.set0 HL.out.1),HB2⟩
   ·
    have e1:((b.toNat:Int) == 32) = false:=by rw [beq_eq_false_iff_ne];exact a1
    by_cases a2:(b.toNat:Int) = 9
    ·
     have e2:((b.toNat:Int) == 9) = true:=by rw [beq_iff_eq];exact a2
     have HB2:=Lib.hid (HT.out (blank_yes b (.inr a2)))
     clear a1 a2
     go_wp2
     go_roundg t.length
     case measure=>exact HL.out.2
     case rel=>exact ⟨t,rfl,Lib.hid (HS.out.set0 HL.out.1),HB2⟩
    ·
     have e2:((b.toNat:Int) == 9) = false:=by rw [beq_eq_false_iff_ne];exact a2
     have HB2:=Lib.hid (HN.out (blank_no b a1 a2))
     clear a1 a2
     go_wp2
     go_end0
     exact ⟨rfl,by rw [HB2.out];exact HS.out⟩
theorem tw_of (p:UInt8 → Bool) (s:List UInt8) (k:Nat) (hk:k ≤ s.length) (hall:(s.take k).all p = true) (hstop:∀ h:k < s.length,p s[k] = false) :
  s.takeWhile p = s.take k∧s.dropWhile p = s.drop k:=by
 induction s generalizing k with
 | nil=>simp
 | cons b t ih =>
  cases k with
  | zero =>
   have:=hstop (by simp)
   simp at this
   simp [List.takeWhile_cons,List.dropWhile_cons,this]
  | succ k =>
   simp at hall
   have hb:=hall.1
   have:=ih k (by simpa using hk) (by simpa using hall.2) (fun h=>by have:=hstop (by simp;omega);simpa using this)
   simp [List.takeWhile_cons,List.dropWhile_cons,hb,this.1,this.2]
theorem run_eq (dash:Bool) (l:List UInt8):run dash l = (l.takeWhile (inRun dash),l.dropWhile (inRun dash)):=rfl
theorem byte_beq (b:UInt8) (n:Nat) (hn:n < 256):(b == UInt8.ofNat n) = ((b.toNat:Int) == (n:Int)):=by
 rw [Bool.eq_iff_iff,beq_iff_eq,beq_iff_eq]
 constructor
 ·
  rintro rfl
  simp
  omega
 ·
  intro h
  apply UInt8.toNat_inj.1
  simp
  omega
set_option maxHeartbeats 1600000 in
theorem run_calls (rb:Nat) (s:List UInt8) (bad dash:Bool) (w:World) (h:At w rb s bad) :
  Calls Tryz.prog 188 #[.pointer (some ⟨rb,0,none⟩),.bool dash] w fun e w'=>e = .returned (.string (mkS (run dash s).1))∧Step w w' rb (run dash s).2 bad:=by
 have h':=Lib.hid h
 obtain ⟨c0,c1,f0,f1,len⟩:=h
 have z:=mkS_size s
 go_enter Tryz.func188,Tryz.ntmps188
 go_wp2
 go_loopw [5] (fun vi wr=>∃ k:Nat,k ≤ s.length∧vi = .int .i64 k∧wr = w∧Hid ((s.take k).all (inRun dash) = true)) (fun vi _=>s.length - (intOf vi).toNat)
 case atStart=>exact ⟨0,by omega,rfl,rfl,Lib.hid rfl⟩
 case round =>
  obtain ⟨k,hk,rfl,rfl,HA⟩:=hrel
  have HX:Hid ((mkS s).extract k s.length = mkS (s.drop k)):=Lib.hid (by rw [mkS_extract,List.take_of_length_le (by simp)])
  have HY:Hid ((mkS s).extract 0 k = mkS (s.take k)):=Lib.hid (by rw [mkS_extract];simp)
  have HD:Hid ((s.drop k).length ≤ 70368744177664):=Lib.hid (by rw [List.length_drop];omega)
  by_cases hlt:k < s.length
  ·
   have hd:decide (k < s.length) = true:=decide_eq_true hlt
   have ik:(k:Int) < (s.length:Int):=by omega
   have ik0:(0:Int) ≤ (k:Int):=by omega
   obtain ⟨b,hb0⟩:∃ b,s[k] = b:=⟨_,rfl⟩
   have hks:k < (mkS s).size:=by rw [z];exact hlt
   have hg:(mkS s)[k]'hks = b:=(Rd.mkS_get s k hks hlt).trans hb0
   have hgl:Hid (s.take (k + 1) = s.take k ++ [b]):=Lib.hid (by rw [List.take_succ_eq_append_getElem hlt,hb0])
   have HN:Hid (inRun dash b = false → s.takeWhile (inRun dash) = s.take k∧s.dropWhile (inRun dash) = s.drop k):=
    Lib.hid (fun hf=>tw_of _ s k hk HA.out (fun h=>by rw [hb0];exact hf))
   have HY1:Hid (inRun dash b = true → (s.take (k + 1)).all (inRun dash) = true):=Lib.hid (fun ht=>by rw [hgl.out,List.all_append,HA.out];simp [ht])
   have HI:Hid (inRun dash b = (alnum b.toNat || (dash && ((b.toNat:Int) == 45)))):=Lib.hid (by rw [inRun,show (b == 45) = ((b.toNat:Int) == 45) from byte_beq b 45 (by decide)])
   clear hb0 HA hgl
   go_wp2_with fail
   refine (alnum_calls b _).mono ?_
   rintro e w1 ⟨rfl,rfl⟩
   cases hb:alnum b.toNat with
   | true =>
    have HR:=Lib.hid (HY1.out (by rw [HI.out,hb];rfl))
    go_wp2
    go_roundw
    case rel=>exact ⟨k + 1,by omega,by go_num,by first | rfl | trivial,HR⟩
    case measure=>simp [intOf];omega
   | false =>
    cases dash with
    | false =>
     have HR:=Lib.hid (HN.out (by rw [HI.out,hb];rfl))
     go_wp2
     go_ret
     exact ⟨ret_str (HY.out.trans (by rw [run_eq,HR.out.1])),by rw [run_eq];dsimp only;rw [HR.out.2];have:=(Step.refl h'.out).set0 (t:=s.drop k) HD.out;rw [← HX.out] at this;exact this⟩
    | true =>
     cases hc:((b.toNat:Int) == 45) with
     | true =>
      have HR:=Lib.hid (HY1.out (by rw [HI.out,hb,hc];rfl))
      go_wp2
      go_roundw
      case rel=>exact ⟨k + 1,by omega,by go_num,by first | rfl | trivial,HR⟩
      case measure=>simp [intOf];omega
     | false =>
      have HR:=Lib.hid (HN.out (by rw [HI.out,hb,hc];rfl))
      go_wp2
      go_ret
      exact ⟨ret_str (HY.out.trans (by rw [run_eq,HR.out.1])),by rw [run_eq];dsimp only;rw [HR.out.2];have:=(Step.refl h'.out).set0 (t:=s.drop k) HD.out;rw [← HX.out] at this;exact this⟩
  ·
   have hd:decide (k < s.length) = false:=decide_eq_false hlt
   have HR:=Lib.hid (tw_of (inRun dash) s k hk HA.out (fun h=>absurd h hlt))
   go_wp2
   go_ret
   exact ⟨ret_str (HY.out.trans (by rw [run_eq,HR.out.1])),by rw [run_eq];dsimp only;rw [HR.out.2];have:=(Step.refl h'.out).set0 (t:=s.drop k) HD.out;rw [← HX.out] at this;exact this⟩
end Go.Proofs.YtnplommdgfgboaaGreatDoor.Ref5
