/-
  Texts of the claim, one behind the other: Print, Cmp, TermW, SortT, StoreW, Search, Pack, Clones, Wave, IdsCmp, Ring, Ring2, SortUse, CompT, StoreID, ParseP.
-/
import Derived.Test.YtnplommdgfgboaaGreatDoorK3
import Derived.Sort.Walk0
import Derived.Laws.BitsAllLaws
import Derived.Deep.OwnRows
import Derived.Lib.IndexMore
set_option linter.unusedVariables false
set_option linter.unusedSimpArgs false
namespace Go.Proofs.YtnplommdgfgboaaGreatDoor.Print
open Go.RowKit Go.Lib B Rd Utf TermPure LinesPure Tx Env Bld Tri
def lineN (t:Triple):List UInt8:=shown t.s ++ (32 :: (shown t.p ++ (32 :: (shown t.o ++ [32,46,10]))))
def SmallT (t:Triple):Prop:=(t.s.text.length ≤ 1099511627776∧t.s.extra.length ≤ 1099511627776)∧(t.p.text.length ≤ 1099511627776∧t.p.extra.length ≤ 1099511627776)∧(t.o.text.length ≤ 1099511627776∧t.o.extra.length ≤ 1099511627776)
theorem shown_len (t:Term):(shown t).length ≤ 6 * t.text.length + t.extra.length + 10:=by
 have:=Show.quoted_len t.text
 unfold shown
 repeat' split
 all_goals try simp only [List.length_cons,List.length_append,List.length_nil]
 all_goals omega
theorem box9 (w:World) (t:Triple) (p:QT.Bel (w.alloc (.cells #[.int .i64 t.s.kind,.string (mkS t.s.text),.string (mkS t.s.extra),.int .i64 t.p.kind,.string (mkS t.p.text),.string (mkS t.p.extra),.int .i64 t.o.kind,.string (mkS t.o.text),.string (mkS t.o.extra)] 36))) :
  p.w.cell? ⟨w.heap.size,0,none⟩ = some (.int .i64 t.s.kind)∧p.w.cell? ⟨w.heap.size,1,none⟩ = some (.string (mkS t.s.text))∧p.w.cell? ⟨w.heap.size,2,none⟩ = some (.string (mkS t.s.extra)) ∧
  p.w.cell? ⟨w.heap.size,3,none⟩ = some (.int .i64 t.p.kind)∧p.w.cell? ⟨w.heap.size,4,none⟩ = some (.string (mkS t.p.text))∧p.w.cell? ⟨w.heap.size,5,none⟩ = some (.string (mkS t.p.extra)) ∧
  p.w.cell? ⟨w.heap.size,6,none⟩ = some (.int .i64 t.o.kind)∧p.w.cell? ⟨w.heap.size,7,none⟩ = some (.string (mkS t.o.text))∧p.w.cell? ⟨w.heap.size,8,none⟩ = some (.string (mkS t.o.extra)):=by
 have ht:=Ref5.T9.new w t
 exact ⟨p.cell ht.s.c0,p.cell ht.s.c1,p.cell ht.s.c2,p.cell ht.p.c0,p.cell ht.p.c1,p.cell ht.p.c2,p.cell ht.o.c0,p.cell ht.o.c1,p.cell ht.o.c2⟩
theorem flat_take (l:List Triple) (k:Nat) (h:k < l.length):(l.take (k + 1)).flatMap lineN = (l.take k).flatMap lineN ++ lineN l[k]:=by
 rw [List.take_succ_eq_append_getElem h,List.flatMap_append]
 simp
theorem flat_le {l:List Triple} (hn:(l.flatMap lineN).length ≤ 140737488355328) (k:Nat) (h:k < l.length) {x:List UInt8} (hx:(l.take (k + 1)).flatMap lineN = (l.take k).flatMap lineN ++ x) :
  ((l.take k).flatMap lineN).length + x.length ≤ 140737488355328:=by
 rw [← List.length_append,← hx]
 refine Nat.le_trans ?_ hn
 have:l.flatMap lineN = (l.take (k + 1)).flatMap lineN ++ (l.drop (k + 1)).flatMap lineN:=by rw [← List.flatMap_append,List.take_append_drop]
 rw [this,List.length_append]
 omega
set_option maxHeartbeats 4000000 in
set_option maxRecDepth 100000 in
theorem print_calls (l:List Triple) (A:Option Addr) (c:Nat) (w:World) (HL:triK.sl.M w (fun k=>k < w.heap.size) l [.slice A l.length c]) (hs:∀ t ∈ l,SmallT t) (hn:(l.flatMap lineN).length ≤ 140737488355328) :
  Calls Tryz.prog 62 #[.slice A l.length c] w fun e w'=>e = .returned (.string (mkS (l.flatMap lineN)))∧Below w.heap.size w w':=by
 obtain ⟨A',c',he,hlc,⟨h47,hcm⟩,hA,hrow⟩:=HL
 obtain ⟨rfl,rfl⟩:A = A'∧c = c':=by simpa using he
 have HROW:=Lib.hid hrow
 have HS:=Lib.hid hs
 have HN:=Lib.hid hn
 have HB0:Hid (Bld w.heap.size w.heap.size [] (w.alloc (.cells #[.pointer none,.slice none 0 0] 161))):=Lib.hid (Bld.new w)
 clear he hrow hs hn
 go_enter Tryz.func62,Tryz.ntmps62
 go_wp2
 go_loopw [5,8] (fun v5 vi wr=>∃ k:Nat,k ≤ l.length∧vi = .int .i64 k∧Hid (Bld w.heap.size w.heap.size ((l.take k).flatMap lineN) wr)∧Hid (Below w.heap.size w wr)) (fun _ vi _=>l.length - (intOf vi).toNat)
 case atStart=>exact ⟨0,by omega,rfl,HB0,Lib.hid (bel_alloc (Below.refl _ _) _)⟩
 case round =>
  obtain ⟨k,hk,rfl,HB,HW⟩:=hrel
  by_cases hlt:k < l.length
  ·
   have hd:decide (k < l.length) = true:=decide_eq_true hlt
   have ik:(k:Int) < (l.length:Int):=by omega
   obtain ⟨b,off,hAe,hb,hbl,hcells⟩:=Kd.row_addr HROW.out (by omega)
   subst hAe
   obtain ⟨cs,⟨hcs,hfit⟩,hcell⟩:=hcells k hlt
   obtain ⟨t,ht⟩:∃ t,t = l[k]:=⟨_,rfl⟩
   rw [← ht] at hcs
   subst hcs
   have mv:∀ j u,(triL t)[j]? = some u → wr.cell? ⟨b,off + k * 9 + j,none⟩ = some u:=fun j u hu=>(HW.out.cell (p:=⟨b,off + k * 9 + j,none⟩) hbl).trans (hcell j u hu)
   have z0:wr.cell? ⟨b,off + k * 9,none⟩ = some (.int .i64 t.s.kind):=mv 0 _ rfl
   have z1:=mv 1 _ rfl
   have z2:=mv 2 _ rfl
   have z3:=mv 3 _ rfl
   have z4:=mv 4 _ rfl
   have z5:=mv 5 _ rfl
   have z6:=mv 6 _ rfl
   have z7:=mv 7 _ rfl
   have z8:=mv 8 _ rfl
   clear hcells hcell mv
   have fs:=HS.out t (by rw [ht];exact List.getElem_mem hlt)
   have HT:=Lib.hid (flat_take l k hlt)
   rw [← ht] at HT
   clear ht
   obtain ⟨⟨sk,sx,se⟩,⟨pk,px,pe⟩,⟨ok,ox,oe⟩⟩:=t
   dsimp only at z0 z1 z2 z3 z4 z5 z6 z7 z8
   obtain ⟨⟨a1,a2⟩,⟨a3,a4⟩,⟨a5,a6⟩⟩:=fs
   dsimp only at a1 a2 a3 a4 a5 a6
   have HS1:=Lib.hid (fun w=>Show.show_calls ⟨sk,sx,se⟩ (by dsimp only;omega) (by dsimp only;omega) w)
   have HS2:=Lib.hid (fun w=>Show.show_calls ⟨pk,px,pe⟩ (by dsimp only;omega) (by dsimp only;omega) w)
   have HS3:=Lib.hid (fun w=>Show.show_calls ⟨ok,ox,oe⟩ (by dsimp only;omega) (by dsimp only;omega) w)
   have l1:=shown_len ⟨sk,sx,se⟩
   have l2:=shown_len ⟨pk,px,pe⟩
   have l3:=shown_len ⟨ok,ox,oe⟩
   dsimp only at l1 l2 l3
   have HLN:Hid (lineN ⟨⟨sk,sx,se⟩,⟨pk,px,pe⟩,⟨ok,ox,oe⟩⟩ = shown ⟨sk,sx,se⟩ ++ (32 :: (shown ⟨pk,px,pe⟩ ++ (32 :: (shown ⟨ok,ox,oe⟩ ++ [32,46,10]))))):=Lib.hid rfl
   have HBX:=Lib.hid (fun p=>box9 wr ⟨⟨sk,sx,se⟩,⟨pk,px,pe⟩,⟨ok,ox,oe⟩⟩ p)
   have HBe:=Lib.hid (bel_alloc (Below.refl wr.heap.size wr) (.cells #[.int .i64 sk,.string (mkS sx),.string (mkS se),.int .i64 pk,.string (mkS px),.string (mkS pe),.int .i64 ok,.string (mkS ox),.string (mkS oe)] 36))
   generalize shown ⟨sk,sx,se⟩ = S1 at *
   generalize shown ⟨pk,px,pe⟩ = S2 at *
   generalize shown ⟨ok,ox,oe⟩ = S3 at *
   have y1:=mkS_size S1
   have y2:=mkS_size S2
   have y3:=mkS_size S3
   have q1:(⟨#[32]⟩:ByteArray).size = 1:=rfl
   have q3:(⟨#[32,46,10]⟩:ByteArray).size = 3:=rfl
   have x1:(mkS S1 ++ (⟨#[32]⟩:ByteArray)).size = S1.length + 1:=by rw [ByteArray.size_append,y1,q1]
   have x2:(mkS S1 ++ (⟨#[32]⟩:ByteArray) ++ mkS S2).size = S1.length + 1 + S2.length:=by rw [ByteArray.size_append,x1,y2]
   have x3:(mkS S1 ++ (⟨#[32]⟩:ByteArray) ++ mkS S2 ++ (⟨#[32]⟩:ByteArray)).size = S1.length + 1 + S2.length + 1:=by rw [ByteArray.size_append,x2,q1]
   have x4:(mkS S1 ++ (⟨#[32]⟩:ByteArray) ++ mkS S2 ++ (⟨#[32]⟩:ByteArray) ++ mkS S3).size = S1.length + 1 + S2.length + 1 + S3.length:=by rw [ByteArray.size_append,x3,y3]
   have HCat:Hid (mkS S1 ++ (⟨#[32]⟩:ByteArray) ++ mkS S2 ++ (⟨#[32]⟩:ByteArray) ++ mkS S3 ++ (⟨#[32,46,10]⟩:ByteArray) = mkS (lineN ⟨⟨sk,sx,se⟩,⟨pk,px,pe⟩,⟨ok,ox,oe⟩⟩)):=Lib.hid (by
    rw [HLN.out,mkS_lit,mkS_lit,mkS_append,mkS_append,mkS_append,mkS_append,mkS_append]
    simp)
   have b0:=fun p=>(HBX.out p).1
   have b1:=fun p=>(HBX.out p).2.1
   have b2:=fun p=>(HBX.out p).2.2.1
   have b3:=fun p=>(HBX.out p).2.2.2.1
   have b4:=fun p=>(HBX.out p).2.2.2.2.1
   have b5:=fun p=>(HBX.out p).2.2.2.2.2.1
   have b6:=fun p=>(HBX.out p).2.2.2.2.2.2.1
   have b7:=fun p=>(HBX.out p).2.2.2.2.2.2.2.1
   have b8:=fun p=>(HBX.out p).2.2.2.2.2.2.2.2
   dsimp only at b0 b1 b2 b3 b4 b5 b6 b7 b8
   clear hfit
   go_upto_region 5 with fail
   refine QT.region_bel 14 (by kernel_rfl) (by kernel_rfl) ?_
   simp only [List.take_succ_cons,List.take_zero,List.drop_succ_cons,List.drop_zero]
   iterate 2 (go_big_quiet_step (fail))
   go_big_quiet_step (exact QT.Bel.call _ (HS1.out _))
   iterate 3 (go_big_quiet_step (fail))
   go_big_quiet_step (exact QT.Bel.call _ (HS2.out _))
   iterate 4 (go_big_quiet_step (fail))
   go_big_quiet_step (exact QT.Bel.call _ (HS3.out _))
   iterate 2 (go_big_quiet_step (fail))
   refine wpQuiet_nil ?_
   intro w2 hw'
   obtain ⟨⟨_,hb⟩,rfl⟩:=hw'
   have HB2:=Lib.hid ((HB.out.below HBe.out).below hb)
   have HW2:=Lib.hid (bel_step (bel_step HW.out HBe.out) hb)
   have hz2:w.heap.size ≤ w2.heap.size:=HW2.out.size
   have HLen:=Lib.hid (flat_le HN.out k hlt HT.out)
   clear hb b0 b1 b2 b3 b4 b5 b6 b7 b8 HB z0 z1 z2 z3 z4 z5 z6 z7 z8
   go_wp2_with fail
   rw [HCat.out]
   refine (Bld.writeString_calls _ _ _ _ w2 HB2.out HLen.out hz2).mono ?_
   rintro e w3 ⟨⟨v,rfl⟩,hB3,hb3⟩
   have HB3:=Lib.hid hB3
   have HW3:=Lib.hid (HW2.out.trans hb3)
   clear hB3 hb3 HB2 HW2
   go_wp2
   go_roundw
   case rel=>exact ⟨k + 1,by omega,by go_num,Lib.hid (by rw [HT.out];exact HB3.out),HW3⟩
   case measure=>simp [intOf];omega
  ·
   have hd:decide (k < l.length) = false:=decide_eq_false hlt
   obtain rfl:k = l.length:=by omega
   have HB':Hid (Bld w.heap.size w.heap.size (l.flatMap lineN) wr):=Lib.hid (by have:=HB.out;rwa [List.take_length] at this)
   have hz2:w.heap.size ≤ wr.heap.size:=HW.out.size
   clear HB
   go_wp2_with fail
   refine (string_calls _ _ _ wr HB'.out hz2).mono ?_
   rintro e w2 ⟨rfl,_,hK2⟩
   have HW2:=Lib.hid (HW.out.trans hK2)
   clear hK2 HB'
   go_wp2
   go_ret
   exact ⟨rfl,HW2.out⟩
end Go.Proofs.YtnplommdgfgboaaGreatDoor.Print
namespace Go.Proofs.YtnplommdgfgboaaGreatDoor.Cmp
open Go.RowKit Go.Lib B Rd Utf TermPure LinesPure Tx Env Tri SortP Print
theorem less_eq (a b:List UInt8):Op.bytesLess (mkS a).toList (mkS b).toList = decide (a < b):=by rw [mkS_toList,mkS_toList,Go.Proofs.bytesLess_eq]
theorem beq_eq (a b:List UInt8):((mkS a).toList == (mkS b).toList) = decide (a = b):=by
 rw [mkS_toList,mkS_toList]
 by_cases h:a = b <;> simp [h]
theorem isNaN_calls (a:List UInt8) (w:World):Calls Tryz.prog 174 #[.string (mkS a)] w fun e w'=>e = .returned (.bool false)∧w = w':=by
 go_enter Tryz.func174,Tryz.ntmps174
 go_wp2
 go_ret
 exact ⟨rfl,rfl⟩
theorem compare_calls (a b:List UInt8) (w:World):Calls Tryz.prog 134 #[.string (mkS a),.string (mkS b)] w fun e w'=>e = .returned (.int .i64 (SortP.cmpL a b))∧w = w':=by
 have h1:=less_eq a b
 have h2:=beq_eq a b
 have HC:Hid (SortP.cmpL a b = if a < b then -1 else if b < a then 1 else 0):=Lib.hid rfl
 by_cases l1:a < b
 ·
  rw [decide_eq_true l1] at h1
  have HV:Hid (SortP.cmpL a b = -1):=Lib.hid (by rw [HC.out,if_pos l1])
  clear l1 HC h2
  go_enter Tryz.func134,Tryz.ntmps134
  go_wp2_with fail
  refine (isNaN_calls a w).mono ?_
  rintro e w1 ⟨rfl,rfl⟩
  go_wp2_with fail
  refine (isNaN_calls b w).mono ?_
  rintro e w1 ⟨rfl,rfl⟩
  go_wp2
  go_ret
  exact ⟨by rw [HV.out];rfl,rfl⟩
 ·
  rw [decide_eq_false l1] at h1
  by_cases l2:a = b
  ·
   rw [decide_eq_true l2] at h2
   have HV:Hid (SortP.cmpL a b = 0):=Lib.hid ((SortP.cmpL_zero a b).2 l2)
   clear l1 l2 HC
   go_enter Tryz.func134,Tryz.ntmps134
   go_wp2_with fail
   refine (isNaN_calls a w).mono ?_
   rintro e w1 ⟨rfl,rfl⟩
   go_wp2_with fail
   refine (isNaN_calls b w).mono ?_
   rintro e w1 ⟨rfl,rfl⟩
   go_wp2
   go_ret
   exact ⟨by rw [HV.out];rfl,rfl⟩
  ·
   rw [decide_eq_false l2] at h2
   have HV:Hid (SortP.cmpL a b = 1):=Lib.hid (by
    rcases SortP.cmpL_three a b with h | h | h
    ·
     exact absurd ((SortP.cmpL_neg a b).1 (by rw [h];decide)) l1
    ·
     exact absurd ((SortP.cmpL_zero a b).1 h) l2
    ·
     exact h)
   clear l1 l2 HC
   go_enter Tryz.func134,Tryz.ntmps134
   go_wp2_with fail
   refine (isNaN_calls a w).mono ?_
   rintro e w1 ⟨rfl,rfl⟩
   go_wp2_with fail
   refine (isNaN_calls b w).mono ?_
   rintro e w1 ⟨rfl,rfl⟩
   go_wp2
   go_ret
   exact ⟨by rw [HV.out];rfl,rfl⟩
def SmallM (t:Term):Prop:=t.text.length ≤ 1099511627776∧t.extra.length ≤ 1099511627776
theorem box2 (w:World) (k:Int) (x ex:List UInt8) (k':Int) (x' ex':List UInt8) (p:QT.Bel ((w.alloc (.cells #[.int .i64 k,.string (mkS x),.string (mkS ex)] 24)).alloc (.cells #[.int .i64 k',.string (mkS x'),.string (mkS ex')] 24))) :
  (p.w.cell? ⟨w.heap.size,0,none⟩ = some (.int .i64 k)∧p.w.cell? ⟨w.heap.size,1,none⟩ = some (.string (mkS x))∧p.w.cell? ⟨w.heap.size,2,none⟩ = some (.string (mkS ex))) ∧
  (p.w.cell? ⟨w.heap.size + 1,0,none⟩ = some (.int .i64 k')∧p.w.cell? ⟨w.heap.size + 1,1,none⟩ = some (.string (mkS x'))∧p.w.cell? ⟨w.heap.size + 1,2,none⟩ = some (.string (mkS ex'))):=by
 have ht:=(Tc.TC.new w ⟨k,x,ex⟩).alloc (.cells #[.int .i64 k',.string (mkS x'),.string (mkS ex')] 24)
 have ht':=Tc.TC.new (w.alloc (.cells #[.int .i64 k,.string (mkS x),.string (mkS ex)] 24)) ⟨k',x',ex'⟩
 rw [show (w.alloc (.cells #[.int .i64 k,.string (mkS x),.string (mkS ex)] 24)).heap.size = w.heap.size + 1 by simp] at ht'
 exact ⟨⟨p.cell ht.c0,p.cell ht.c1,p.cell ht.c2⟩,p.cell ht'.c0,p.cell ht'.c1,p.cell ht'.c2⟩
set_option maxHeartbeats 1600000 in
theorem termCmp_calls (a b:Term) (ha:SmallM a) (hb:SmallM b) (w:World):Calls Tryz.prog 89 #[Ref5.termV a,Ref5.termV b] w fun e w'=>e = .returned (.int .i64 (cmpTm a b))∧Below w.heap.size w w':=by
 obtain ⟨k,x,ex⟩:=a
 obtain ⟨k',x',ex'⟩:=b
 have H1:=Lib.hid (fun w=>Show.show_calls ⟨k,x,ex⟩ (Nat.le_trans ha.1 (by decide)) (Nat.le_trans ha.2 (by decide)) w)
 have H2:=Lib.hid (fun w=>Show.show_calls ⟨k',x',ex'⟩ (Nat.le_trans hb.1 (by decide)) (Nat.le_trans hb.2 (by decide)) w)
 have H3:=Lib.hid (fun w=>(compare_calls (shown ⟨k,x,ex⟩) (shown ⟨k',x',ex'⟩) w).mono (fun e w' (h:e = .returned (.int .i64 (SortP.cmpL (shown ⟨k,x,ex⟩) (shown ⟨k',x',ex'⟩)))∧w = w')=>(⟨h.1,by rw [h.2];exact Below.refl _ _⟩:e = .returned (.int .i64 (SortP.cmpL (shown ⟨k,x,ex⟩) (shown ⟨k',x',ex'⟩)))∧Below w.heap.size w w')))
 have HV:Hid (cmpTm ⟨k,x,ex⟩ ⟨k',x',ex'⟩ = SortP.cmpL (shown ⟨k,x,ex⟩) (shown ⟨k',x',ex'⟩)):=Lib.hid rfl
 generalize shown ⟨k,x,ex⟩ = S1 at *
 generalize shown ⟨k',x',ex'⟩ = S2 at *
 have HX:=Lib.hid (fun p=>box2 w k x ex k' x' ex' p)
 have HBe:=Lib.hid (bel_alloc (bel_alloc (Below.refl w.heap.size w) (.cells #[.int .i64 k,.string (mkS x),.string (mkS ex)] 24)) (.cells #[.int .i64 k',.string (mkS x'),.string (mkS ex')] 24))
 have a0:=fun p=>(HX.out p).1.1
 have a1:=fun p=>(HX.out p).1.2.1
 have a2:=fun p=>(HX.out p).1.2.2
 have b0:=fun p=>(HX.out p).2.1
 have b1:=fun p=>(HX.out p).2.2.1
 have b2:=fun p=>(HX.out p).2.2.2
 unfold Ref5.termV
 dsimp only
 clear ha hb
 go_enter Tryz.func89,Tryz.ntmps89
 go_upto_region 1 with fail
 refine QT.region_all (by kernel_rfl) (by kernel_rfl) ?_
 iterate 1 (go_big_quiet_step (fail))
 go_big_quiet_step (exact QT.Bel.call _ (H1.out _))
 iterate 1 (go_big_quiet_step (fail))
 go_big_quiet_step (exact QT.Bel.call _ (H2.out _))
 go_big_quiet_step (exact QT.Bel.call _ (H3.out _))
 repeat (go_big_quiet_step (fail))
 refine wpQuiet_nil ?_
 intro w2 hw'
 obtain ⟨⟨_,hb⟩,rfl⟩:=hw'
 have HB:=Lib.hid (bel_step HBe.out hb)
 clear hb a0 a1 a2 b0 b1 b2
 go_wp2
 go_ret
 exact ⟨by rw [HV.out];rfl,HB.out⟩
set_option maxHeartbeats 1600000 in
theorem or_calls (x y z:Int) (g:Nat) (w:World) (c0:w.cell? ⟨g,0,none⟩ = some (.int .i64 x)) (c1:w.cell? ⟨g,1,none⟩ = some (.int .i64 y)) (c2:w.cell? ⟨g,2,none⟩ = some (.int .i64 z)) :
  Calls Tryz.prog 153 #[.slice (some ⟨g,0,none⟩) 3 3] w fun e w'=>e = .returned (.int .i64 (orI x y z))∧w = w':=by
 go_enter Tryz.func153,Tryz.ntmps153
 go_wp2
 go_loopw [5,8] (fun v5 vi wr=>∃ k:Nat,k ≤ 3∧vi = .int .i64 k∧wr = w∧(1 ≤ k → x = 0)∧(2 ≤ k → y = 0)∧(3 ≤ k → z = 0)) (fun _ vi _=>3 - (intOf vi).toNat)
 case atStart=>exact ⟨0,by omega,by first | rfl | trivial,by first | rfl | trivial,fun h=>absurd h (by omega),fun h=>absurd h (by omega),fun h=>absurd h (by omega)⟩
 case round =>
  obtain ⟨k,hk,rfl,rfl,h1,h2,h3⟩:=hrel
  have hk4:k = 0 ∨ k = 1 ∨ k = 2 ∨ k = 3:=by omega
  rcases hk4 with rfl | rfl | rfl | rfl
  ·
   clear h1 h2 h3
   by_cases h:x = 0
   ·
    have hn:(x != 0) = false:=by simp [h]
    have HZ:=Lib.hid h
    clear h
    go_wp2
    go_roundw
    case rel=>exact ⟨1,by omega,by first | rfl | trivial,by first | rfl | trivial,fun _=>HZ.out,fun h=>absurd h (by omega),fun h=>absurd h (by omega)⟩
    case measure=>simp [intOf]
   ·
    have hn:(x != 0) = true:=by simp [h]
    have HV:Hid (orI x y z = x):=Lib.hid (by unfold orI;rw [if_pos h])
    clear h
    go_wp2
    go_ret
    exact ⟨by rw [HV.out];rfl,rfl⟩
  ·
   have H1:=Lib.hid (h1 (by omega))
   clear h1 h2 h3
   by_cases h:y = 0
   ·
    have hn:(y != 0) = false:=by simp [h]
    have HZ:=Lib.hid h
    clear h
    go_wp2
    go_roundw
    case rel=>exact ⟨2,by omega,by first | rfl | trivial,by first | rfl | trivial,fun _=>H1.out,fun _=>HZ.out,fun h=>absurd h (by omega)⟩
    case measure=>simp [intOf]
   ·
    have hn:(y != 0) = true:=by simp [h]
    have HV:Hid (orI x y z = y):=Lib.hid (by unfold orI;rw [if_neg (by simp [H1.out]),if_pos h])
    clear h
    go_wp2
    go_ret
    exact ⟨by rw [HV.out];rfl,rfl⟩
  ·
   have H1:=Lib.hid (h1 (by omega))
   have H2:=Lib.hid (h2 (by omega))
   clear h1 h2 h3
   by_cases h:z = 0
   ·
    have hn:(z != 0) = false:=by simp [h]
    have HZ:=Lib.hid h
    clear h
    go_wp2
    go_roundw
    case rel=>exact ⟨3,by omega,by first | rfl | trivial,by first | rfl | trivial,fun _=>H1.out,fun _=>H2.out,fun _=>HZ.out⟩
    case measure=>simp [intOf]
   ·
    have hn:(z != 0) = true:=by simp [h]
    have HV:Hid (orI x y z = z):=Lib.hid (by unfold orI;rw [if_neg (by simp [H1.out]),if_neg (by simp [H2.out])])
    clear h
    go_wp2
    go_ret
    exact ⟨by rw [HV.out];rfl,rfl⟩
  ·
   have HV:Hid (orI x y z = 0):=Lib.hid (by unfold orI;rw [if_neg (by simp [h1 (by omega)]),if_neg (by simp [h2 (by omega)]),h3 (by omega)])
   clear h1 h2 h3
   go_wp2
   go_ret
   exact ⟨by rw [HV.out];rfl,rfl⟩
theorem box18 (w:World) (a b:Triple) (p:QT.Bel ((w.alloc (.cells #[.int .i64 a.s.kind,.string (mkS a.s.text),.string (mkS a.s.extra),.int .i64 a.p.kind,.string (mkS a.p.text),.string (mkS a.p.extra),.int .i64 a.o.kind,.string (mkS a.o.text),.string (mkS a.o.extra)] 36)).alloc (.cells #[.int .i64 b.s.kind,.string (mkS b.s.text),.string (mkS b.s.extra),.int .i64 b.p.kind,.string (mkS b.p.text),.string (mkS b.p.extra),.int .i64 b.o.kind,.string (mkS b.o.text),.string (mkS b.o.extra)] 36))) :
  (p.w.cell? ⟨w.heap.size,0,none⟩ = some (.int .i64 a.s.kind)∧p.w.cell? ⟨w.heap.size,1,none⟩ = some (.string (mkS a.s.text))∧p.w.cell? ⟨w.heap.size,2,none⟩ = some (.string (mkS a.s.extra))∧p.w.cell? ⟨w.heap.size,3,none⟩ = some (.int .i64 a.p.kind)∧p.w.cell? ⟨w.heap.size,4,none⟩ = some (.string (mkS a.p.text))∧p.w.cell? ⟨w.heap.size,5,none⟩ = some (.string (mkS a.p.extra))∧p.w.cell? ⟨w.heap.size,6,none⟩ = some (.int .i64 a.o.kind)∧p.w.cell? ⟨w.heap.size,7,none⟩ = some (.string (mkS a.o.text))∧p.w.cell? ⟨w.heap.size,8,none⟩ = some (.string (mkS a.o.extra))) ∧
  (p.w.cell? ⟨w.heap.size + 1,0,none⟩ = some (.int .i64 b.s.kind)∧p.w.cell? ⟨w.heap.size + 1,1,none⟩ = some (.string (mkS b.s.text))∧p.w.cell? ⟨w.heap.size + 1,2,none⟩ = some (.string (mkS b.s.extra))∧p.w.cell? ⟨w.heap.size + 1,3,none⟩ = some (.int .i64 b.p.kind)∧p.w.cell? ⟨w.heap.size + 1,4,none⟩ = some (.string (mkS b.p.text))∧p.w.cell? ⟨w.heap.size + 1,5,none⟩ = some (.string (mkS b.p.extra))∧p.w.cell? ⟨w.heap.size + 1,6,none⟩ = some (.int .i64 b.o.kind)∧p.w.cell? ⟨w.heap.size + 1,7,none⟩ = some (.string (mkS b.o.text))∧p.w.cell? ⟨w.heap.size + 1,8,none⟩ = some (.string (mkS b.o.extra))):=by
 have ht:=(Ref5.T9.new w a).alloc (.cells #[.int .i64 b.s.kind,.string (mkS b.s.text),.string (mkS b.s.extra),.int .i64 b.p.kind,.string (mkS b.p.text),.string (mkS b.p.extra),.int .i64 b.o.kind,.string (mkS b.o.text),.string (mkS b.o.extra)] 36)
 have ht':=Ref5.T9.new (w.alloc (.cells #[.int .i64 a.s.kind,.string (mkS a.s.text),.string (mkS a.s.extra),.int .i64 a.p.kind,.string (mkS a.p.text),.string (mkS a.p.extra),.int .i64 a.o.kind,.string (mkS a.o.text),.string (mkS a.o.extra)] 36)) b
 rw [show (w.alloc (.cells #[.int .i64 a.s.kind,.string (mkS a.s.text),.string (mkS a.s.extra),.int .i64 a.p.kind,.string (mkS a.p.text),.string (mkS a.p.extra),.int .i64 a.o.kind,.string (mkS a.o.text),.string (mkS a.o.extra)] 36)).heap.size = w.heap.size + 1 by simp] at ht'
 exact ⟨⟨p.cell ht.s.c0,p.cell ht.s.c1,p.cell ht.s.c2,p.cell ht.p.c0,p.cell ht.p.c1,p.cell ht.p.c2,p.cell ht.o.c0,p.cell ht.o.c1,p.cell ht.o.c2⟩,p.cell ht'.s.c0,p.cell ht'.s.c1,p.cell ht'.s.c2,p.cell ht'.p.c0,p.cell ht'.p.c1,p.cell ht'.p.c2,p.cell ht'.o.c0,p.cell ht'.o.c1,p.cell ht'.o.c2⟩
set_option maxHeartbeats 3200000 in
set_option maxRecDepth 100000 in
theorem cmp_calls (a b:Triple) (ha:SmallT a) (hb:SmallT b) (w:World):Calls Tryz.prog 119 #[Ref5.tripleV a,Ref5.tripleV b] w fun e w'=>e = .returned (.int .i64 (cmpT a b))∧Below w.heap.size w w':=by
 have HX:=Lib.hid (fun p=>box18 w a b p)
 have H1:=Lib.hid (fun w=>termCmp_calls a.s b.s ha.1 hb.1 w)
 have H2:=Lib.hid (fun w=>termCmp_calls a.p b.p ha.2.1 hb.2.1 w)
 have H3:=Lib.hid (fun w=>termCmp_calls a.o b.o ha.2.2 hb.2.2 w)
 have HV:Hid (cmpT a b = orI (cmpTm a.s b.s) (cmpTm a.p b.p) (cmpTm a.o b.o)):=Lib.hid rfl
 have HBe:=Lib.hid (bel_alloc (bel_alloc (Below.refl w.heap.size w) (.cells #[.int .i64 a.s.kind,.string (mkS a.s.text),.string (mkS a.s.extra),.int .i64 a.p.kind,.string (mkS a.p.text),.string (mkS a.p.extra),.int .i64 a.o.kind,.string (mkS a.o.text),.string (mkS a.o.extra)] 36)) (.cells #[.int .i64 b.s.kind,.string (mkS b.s.text),.string (mkS b.s.extra),.int .i64 b.p.kind,.string (mkS b.p.text),.string (mkS b.p.extra),.int .i64 b.o.kind,.string (mkS b.o.text),.string (mkS b.o.extra)] 36))
 generalize cmpTm a.s b.s = v1 at *
 generalize cmpTm a.p b.p = v2 at *
 generalize cmpTm a.o b.o = v3 at *
 obtain ⟨⟨sk,sx,se⟩,⟨pk,px,pe⟩,⟨ok,ox,oe⟩⟩:=a
 obtain ⟨⟨sk',sx',se'⟩,⟨pk',px',pe'⟩,⟨ok',ox',oe'⟩⟩:=b
 unfold Ref5.tripleV
 dsimp only
 clear ha hb
 have a0:=fun p=>(HX.out p).1.1
 have a1:=fun p=>(HX.out p).1.2.1
 have a2:=fun p=>(HX.out p).1.2.2.1
 have a3:=fun p=>(HX.out p).1.2.2.2.1
 have a4:=fun p=>(HX.out p).1.2.2.2.2.1
 have a5:=fun p=>(HX.out p).1.2.2.2.2.2.1
 have a6:=fun p=>(HX.out p).1.2.2.2.2.2.2.1
 have a7:=fun p=>(HX.out p).1.2.2.2.2.2.2.2.1
 have a8:=fun p=>(HX.out p).1.2.2.2.2.2.2.2.2
 have b0:=fun p=>(HX.out p).2.1
 have b1:=fun p=>(HX.out p).2.2.1
 have b2:=fun p=>(HX.out p).2.2.2.1
 have b3:=fun p=>(HX.out p).2.2.2.2.1
 have b4:=fun p=>(HX.out p).2.2.2.2.2.1
 have b5:=fun p=>(HX.out p).2.2.2.2.2.2.1
 have b6:=fun p=>(HX.out p).2.2.2.2.2.2.2.1
 have b7:=fun p=>(HX.out p).2.2.2.2.2.2.2.2.1
 have b8:=fun p=>(HX.out p).2.2.2.2.2.2.2.2.2
 dsimp only at a0 a1 a2 a3 a4 a5 a6 a7 a8 b0 b1 b2 b3 b4 b5 b6 b7 b8
 go_enter Tryz.func119,Tryz.ntmps119
 go_upto_region 1 with fail
 refine QT.region_bel 15 (by kernel_rfl) (by kernel_rfl) ?_
 simp only [List.take_succ_cons,List.take_zero,List.drop_succ_cons,List.drop_zero]
 iterate 4 (go_big_quiet_step (fail))
 go_big_quiet_step (exact QT.Bel.call _ (H1.out _))
 iterate 4 (go_big_quiet_step (fail))
 go_big_quiet_step (exact QT.Bel.call _ (H2.out _))
 iterate 4 (go_big_quiet_step (fail))
 go_big_quiet_step (exact QT.Bel.call _ (H3.out _))
 refine wpQuiet_nil ?_
 intro w2 hw'
 obtain ⟨⟨_,hb⟩,rfl⟩:=hw'
 have HB:=Lib.hid (bel_alloc (bel_step HBe.out hb) (.cells #[.int .i64 v1,.int .i64 v2,.int .i64 v3] 3))
 clear hb a0 a1 a2 a3 a4 a5 a6 a7 a8 b0 b1 b2 b3 b4 b5 b6 b7 b8
 go_wp2_with fail
 refine (or_calls v1 v2 v3 _ _ (by unfold World.cell?;dsimp only;rw [Kd.heap_new];rfl) (by unfold World.cell?;dsimp only;rw [Kd.heap_new];rfl) (by unfold World.cell?;dsimp only;rw [Kd.heap_new];rfl)).mono ?_
 rintro e w3 ⟨rfl,rfl⟩
 go_wp2
 go_ret
 exact ⟨by rw [HV.out];rfl,HB.out⟩
end Go.Proofs.YtnplommdgfgboaaGreatDoor.Cmp
set_option linter.unusedSectionVars false
namespace Go.Proofs.YtnplommdgfgboaaGreatDoor.TermW
open Go.RowKit Go.Lib B Rd TermPure LinesPure Tri OrdG
structure C3 (w:World) (g o:Nat) (t:Term):Prop where
 c0:w.cell? ⟨g,o,none⟩ = some (.int .i64 t.kind)
 c1:w.cell? ⟨g,o + 1,none⟩ = some (.string (mkS t.text))
 c2:w.cell? ⟨g,o + 2,none⟩ = some (.string (mkS t.extra))
theorem C3.of {w:World} {g o:Nat} {t:Term} (h:∀ j u,(termL t)[j]? = some u → w.cell? ⟨g,o + j,none⟩ = some u):C3 w g o t:=⟨h 0 _ rfl,h 1 _ rfl,h 2 _ rfl⟩
theorem C3.lt {w:World} {g o:Nat} {t:Term} (h:C3 w g o t):g < w.heap.size:=World.block_lt_of_cell? w ⟨g,o,none⟩ h.c0
theorem C3.moved {w w':World} {g o:Nat} {t:Term} (h:C3 w g o t) (hm:w'.heap[g]? = w.heap[g]?):C3 w' g o t:=
 have k:∀ {i v},w.cell? ⟨g,i,none⟩ = some v → w'.cell? ⟨g,i,none⟩ = some v:=fun {i v} hc=>(World.cell?_of_block (a:=⟨g,i,none⟩) hm).trans hc
 ⟨k h.c0,k h.c1,k h.c2⟩
theorem C3.below {w w':World} {g o:Nat} {t:Term} (h:C3 w g o t) (hb:Below w.heap.size w w'):C3 w' g o t:=h.moved (hb.block g h.lt)
theorem C3.bel {w:World} {g o:Nat} {t:Term} (h:C3 w g o t) (p:QT.Bel w):C3 p.w g o t:=⟨p.cell h.c0,p.cell h.c1,p.cell h.c2⟩
def put3 (w:World) (g o:Nat) (t:Term):World:=((w.setCell ⟨g,o,none⟩ (.int .i64 t.kind)).setCell ⟨g,o + 1,none⟩ (.string (mkS t.text))).setCell ⟨g,o + 2,none⟩ (.string (mkS t.extra))
theorem some_set {w:World} {a b:Addr} {v:Value} (h:(w.cell? a).isSome = true):((w.setCell b v).cell? a).isSome = true:=by
 by_cases e:b = a
 ·
  subst e
  rw [World.cell?_setCell_same' _ _ _ h]
  try rfl
 ·
  first
   | (rw [World.cell?_setCell_other _ _ _ _ (fun h=>e h)];exact h)
   | (rw [World.cell?_setCell_other _ _ _ _ (fun h=>e h.symm)];exact h)
theorem same_of {w:World} {a:Addr} {v:Value} (h:(w.cell? a).isSome = true):(w.setCell a v).cell? a = some v:=World.cell?_setCell_same' _ _ _ h
theorem put3_other (w:World) (g o:Nat) (t:Term) (j:Nat) (h:j < o ∨ o + 3 ≤ j):(put3 w g o t).cell? ⟨g,j,none⟩ = w.cell? ⟨g,j,none⟩:=by
 unfold put3
 iterate 3 rw [World.cell?_setCell_other _ _ _ _ (by simp;try omega)]
theorem put3_frozen (w:World) (g o:Nat) (t:Term) (a:Addr):(put3 w g o t).frozen? a = w.frozen? a:=by
 unfold put3
 iterate 3 rw [World.frozen?_setCell]
theorem set_grown {w0 w:World} {g:Nat} (h:w0.grownBy w (some g)) (j:Nat) (v:Value):w0.grownBy (w.setCell ⟨g,j,none⟩ v) (some g):=h.trans (grown_setCell w ⟨g,j,none⟩ v)
theorem put3_grown (w:World) (g o:Nat) (t:Term):w.grownBy (put3 w g o t) (some g):=by
 unfold put3
 iterate 3 refine set_grown ?_ _ _
 exact World.grownBy.refl _ _
theorem put3_same {w:World} {g o:Nat} {t0:Term} (h:C3 w g o t0) (t:Term):C3 (put3 w g o t) g o t:=by
 have s0:(w.cell? ⟨g,o,none⟩).isSome = true:=by rw [h.c0];rfl
 have s1:(w.cell? ⟨g,o + 1,none⟩).isSome = true:=by rw [h.c1];rfl
 have s2:(w.cell? ⟨g,o + 2,none⟩).isSome = true:=by rw [h.c2];rfl
 unfold put3
 constructor
 ·
  iterate 2 rw [World.cell?_setCell_other _ _ _ _ (by simp)]
  exact same_of s0
 ·
  iterate 1 rw [World.cell?_setCell_other _ _ _ _ (by simp)]
  exact same_of (some_set s1)
 ·
  exact same_of (some_set (some_set s2))
structure SR (W:World) (g:Nat) (l:List Term) (w:World):Prop where
 grown:W.grownBy w (some g)
 cells:∀ i (h:i < l.length),C3 w g (i * 3) l[i]
 free:∀ j,j < l.length * 3 → w.frozen? ⟨g,j,none⟩ = false
theorem SR.drewN {W w:World} {g:Nat} {l:List Term} (h:SR W g l w) (n:Nat):SR W g l (w.drewN n):=
 ⟨⟨h.grown.os,h.grown.tape,h.grown.output,h.grown.size,h.grown.block⟩,fun i hi=>(h.cells i hi).moved rfl,h.free⟩
theorem SR.below {W w w':World} {g:Nat} {l:List Term} (h:SR W g l w) (hg:g < w.heap.size) (hb:Below w.heap.size w w'):SR W g l w':=
 ⟨h.grown.trans ⟨hb.os,hb.tape,hb.output,hb.size,fun k hk _=>hb.block k hk⟩,fun i hi=>(h.cells i hi).below hb,fun j hj=>(hb.frozen (p:=⟨g,j,none⟩) hg).trans (h.free j hj)⟩
theorem SR.at {W w:World} {g:Nat} {l:List Term} (h:SR W g l w) {q:Nat} {x:Term} (hx:l[q]? = some x):C3 w g (q * 3) x:=by
 obtain ⟨hi,rfl⟩:=List.getElem?_eq_some_iff.1 hx
 exact h.cells q hi
theorem SR.set {W w:World} {g:Nat} {l:List Term} (h:SR W g l w) (i:Nat) (hi:i < l.length) (x:Term):SR W g (l.set i x) (put3 w g (i * 3) x):=by
 refine ⟨h.grown.trans (put3_grown _ _ _ _),fun k hk=>?_,fun q hq=>?_⟩
 ·
  have hk':k < l.length:=by rw [List.length_set] at hk;exact hk
  by_cases e:k = i
  ·
   subst e
   rw [List.getElem_set_self]
   exact put3_same (h.cells k hk') _
  ·
   rw [List.getElem_set_ne (fun h=>e h.symm)]
   have hc:=h.cells k hk'
   have far:∀ d,d < 3 → (k * 3 + d < i * 3 ∨ i * 3 + 3 ≤ k * 3 + d):=fun d hd=>by omega
   exact ⟨(put3_other _ _ _ _ _ (far 0 (by omega))).trans hc.c0,(put3_other _ _ _ _ _ (far 1 (by omega))).trans hc.c1,(put3_other _ _ _ _ _ (far 2 (by omega))).trans hc.c2⟩
 ·
  rw [put3_frozen]
  rw [List.length_set] at hq
  exact h.free q hq
theorem SR.of_own {w:World} {base:Nat} {ok:Nat → Prop} {v:Value} {l:List Term} (h:termK.own 24 w base ok v l) (hp:0 < l.length) :
  ∃ g cap,v = .slice (some ⟨g,0,none⟩) l.length cap∧base ≤ g∧g < w.heap.size∧l.length ≤ cap∧cap ≤ maxLen∧SR w g l w:=by
 obtain ⟨_,cells,ho,hr⟩:=h
 have ho':=ho
 rcases ho'.2 with ⟨_,h0⟩ | ⟨g,cap,cur,rfl,hg,hh,hnc,hcm,hcs,htake⟩
 ·
  omega
 ·
  have hlt:g < w.heap.size:=(Array.getElem?_eq_some_iff.1 hh).1
  refine ⟨g,cap,rfl,hg,hlt,hnc,hcm,World.grownBy.refl _ _,fun i hi=>?_,fun j hj=>?_⟩
  ·
   obtain ⟨hc,_⟩:=hr i l[i] (List.getElem?_eq_getElem hi)
   refine C3.of fun j u hu=>?_
   rw [← hc] at hu
   have:=ho.cells rfl _ _ (Kd.take_drop_get hu)
   rw [add_plain] at this
   exact this
  ·
   unfold World.frozen?
   dsimp only
   rw [hh]
   simp
theorem SR.own {W w:World} {g cap:Nat} {l:List Term} (h:SR W g l w) (hf:∀ t ∈ l,FitsW t) (hl:l.length ≤ 140737488355328) (hc:l.length ≤ cap) (hcm:cap ≤ maxLen) (ok:Nat → Prop) (hok:ok g) :
  termK.sl.M w ok l [.slice (some ⟨g,0,none⟩) l.length cap]:=by
 refine ⟨some ⟨g,0,none⟩,cap,rfl,hc,⟨hl,hcm⟩,fun h=>(by cases h),fun i x hx=>?_⟩
 obtain ⟨hi,rfl⟩:=List.getElem?_eq_some_iff.1 hx
 refine ⟨_,termL l[i],rfl,hok,⟨rfl,hf _ (List.getElem_mem hi)⟩,fun j u hu=>?_⟩
 rw [add_plain]
 obtain ⟨c0,c1,c2⟩:=h.cells i hi
 have hj:j < 3:=(List.getElem?_eq_some_iff.1 hu).1
 match j,hj with
 | 0,_=>cases hu;exact c0
 | 1,_=>cases hu;exact c1
 | 2,_=>cases hu;exact c2
section
variable {α : Type} [DecidableEq α]
theorem compE_snoc:∀ (l:List α) (x y:α),compactE (l ++ [x] ++ [y]) = if x = y then compactE (l ++ [x]) else compactE (l ++ [x]) ++ [y]
 | [],x,y=>by by_cases h:x = y <;> simp [compactE,h]
 | [z],x,y=>by
  show compactE [z,x,y] = if x = y then compactE [z,x] else compactE [z,x] ++ [y]
  simp only [compactE]
  by_cases h1:z = x <;> by_cases h2:x = y <;> simp [h1,h2]
 | z :: z' :: l,x,y=>by
  have ih:=compE_snoc (z' :: l) x y
  simp only [List.cons_append] at ih ⊢
  rw [compactE,compactE,ih]
  by_cases h1:z = z' <;> by_cases h2:x = y <;> simp [h1,h2]
theorem compE_take (R:List α) (j:Nat) (h1:1 ≤ j) (hj:j < R.length):compactE (R.take (j + 1)) = compactE (R.take j) ++ (if R[j] = R[j - 1]'(by omega) then [] else [R[j]]):=by
 obtain ⟨i,rfl⟩:∃ i,j = i + 1:=⟨j - 1,by omega⟩
 rw [List.take_succ_eq_append_getElem hj,List.take_succ_eq_append_getElem (by omega),compE_snoc]
 show (if R[i] = R[i + 1] then _ else _) = _ ++ (if R[i + 1] = R[i] then _ else _)
 by_cases h:R[i] = R[i + 1]
 ·
  rw [if_pos h,if_pos h.symm,List.append_nil]
 ·
  rw [if_neg h,if_neg (fun e=>h e.symm)]
theorem compE_one (R:List α) (h:0 < R.length):compactE (R.take 1) = R.take 1:=by
 cases R with
 | nil=>simp at h
 | cons x l=>simp [compactE]
theorem compE_same (R:List α):∀ j,1 ≤ j → j ≤ R.length → (∀ i (h:i < R.length),1 ≤ i → i < j → R[i] ≠ (R[i - 1]'(by omega))) → compactE (R.take j) = R.take j
 | 0,h,_,_=>by omega
 | 1,_,h,_=>compE_one R (by omega)
 | j + 2,_,h,hne=>by
  rw [compE_take R (j + 1) (by omega) (by omega),compE_same R (j + 1) (by omega) (by omega) (fun i hi h1 h2=>hne i hi h1 (by omega)),if_neg (hne (j + 1) (by omega) (by omega) (by omega))]
  exact (List.take_succ_eq_append_getElem (by omega)).symm
theorem compE_len (R:List α):∀ j,j ≤ R.length → (compactE (R.take j)).length ≤ j
 | 0,_=>by simp [compactE]
 | 1,h=>by rw [compE_one R (by omega),List.length_take];omega
 | j + 2,h=>by
  have:=compE_len R (j + 1) (by omega)
  rw [compE_take R (j + 1) (by omega) (by omega),List.length_append]
  split <;> simp <;> omega
structure CI (R l':List α) (L k j:Nat):Prop where
 len:l'.length = L
 head:l'.take k = compactE (R.take j)
 tail:∀ q,k ≤ q → l'[q]? = R[q]?
theorem CI.start {R:List α} {L k:Nat} (hL:R.length = L) (h1:1 ≤ k) (hk:k < L) (hne:∀ i (h:i < R.length),1 ≤ i → i < k → R[i] ≠ (R[i - 1]'(by omega))) (he:R[k]'(by omega) = R[k - 1]'(by omega)):CI R R L k (k + 1):=
 ⟨hL,by rw [compE_take R k h1 (by omega),if_pos he,List.append_nil,compE_same R k h1 (by omega) hne],fun q _=>rfl⟩
theorem CI.same {R l':List α} {L k j:Nat} (h:CI R l' L k j) (hL:R.length = L) (h1:1 ≤ j) (hj:j < L) (he:R[j]'(by omega) = R[j - 1]'(by omega)):CI R l' L k (j + 1):=
 ⟨h.len,by rw [compE_take R j h1 (by omega),if_pos he,List.append_nil];exact h.head,h.tail⟩
theorem take_set_lt (l:List α) (k:Nat) (x:α) (hk:k < l.length):(l.set k x).take (k + 1) = l.take k ++ [x]:=by
 rw [List.take_succ_eq_append_getElem (by simpa using hk),List.getElem_set_self,List.take_set_of_le (Nat.le_refl k)]
theorem CI.put {R l':List α} {L k j:Nat} (h:CI R l' L k j) (hL:R.length = L) (h1:1 ≤ j) (hj:j < L) (hk:k < L) (he:¬ R[j]'(by omega) = R[j - 1]'(by omega)):CI R (l'.set k (R[j]'(by omega))) L (k + 1) (j + 1):=
 ⟨by rw [List.length_set];exact h.len,by rw [compE_take R j h1 (by omega),if_neg he,take_set_lt _ _ _ (by rw [h.len];exact hk),h.head],fun q hq=>by
  rw [List.getElem?_set_ne (by omega)];exact h.tail q (by omega)⟩
end
theorem idOf_at {l:List Term} (hr:l.Pairwise ltTm) {i:Nat} (h:i < l.length) {t:Term} (ht:l[i] = t):idOf l t = i + 1:=by
 have hm:t ∈ l:=by rw [← ht];exact List.getElem_mem h
 have hi:=List.idxOf_lt_length_of_mem hm
 unfold idOf
 rw [if_pos hm]
 have e:l[l.idxOf t] = l[i]:=(List.getElem_idxOf hi).trans ht.symm
 have h1:¬ l.idxOf t < i:=fun hlt=>by
  have:=List.pairwise_iff_getElem.1 hr _ _ hi h hlt
  rw [e] at this
  exact List.lt_irrefl _ this
 have h2:¬ i < l.idxOf t:=fun hlt=>by
  have:=List.pairwise_iff_getElem.1 hr _ _ h hi hlt
  rw [e] at this
  exact List.lt_irrefl _ this
 omega
def Ends (l:List Term) (t:Term) (i:Nat):Prop:=i ≤ l.length∧(∀ j (h:j < l.length),j < i → ltTm l[j] t)∧∀ j (h:j < l.length),i ≤ j → ¬ ltTm l[j] t
theorem Ends.mem {l:List Term} {t:Term} {i:Nat} (h:Ends l t i) (hr:l.Pairwise ltTm) (hm:t ∈ l):∃ h:i < l.length,l[i] = t:=by
 obtain ⟨q,hq,hqt⟩:=List.mem_iff_getElem.1 hm
 obtain ⟨h1,h2,h3⟩:=h
 have hiq:i ≤ q:=by
  by_cases hlt:q < i
  ·
   have:=h2 q hq hlt
   rw [hqt] at this
   exact absurd this (List.lt_irrefl _)
  ·
   omega
 have hi:i < l.length:=by omega
 refine ⟨hi,?_⟩
 by_cases e:i = q
 ·
  subst e;exact hqt
 ·
  have:=List.pairwise_iff_getElem.1 hr i q hi hq (by omega)
  rw [hqt] at this
  exact absurd this (h3 i hi (Nat.le_refl _))
theorem Ends.idOf {l:List Term} {t:Term} {i:Nat} (h:Ends l t i) (hr:l.Pairwise ltTm) (hne:∀ h:i < l.length,l[i] ≠ t):idOf l t = 0:=by
 unfold OrdG.idOf
 rw [if_neg (fun hm=>by obtain ⟨h1,h2⟩:=h.mem hr hm;exact hne h1 h2)]
end Go.Proofs.YtnplommdgfgboaaGreatDoor.TermW
namespace Go.Proofs.YtnplommdgfgboaaGreatDoor.SortT
open Go Go.RowKit Go.Sort Go.Shelf Go.Lib Go.Proofs B Rd TermPure LinesPure Tri SortP OrdG SortRow
theorem chunks {α:Type} {enc:α → List Value} {k:Nat} (hk:∀ x,(enc x).length = k) (hp:0 < k) {cells:List Value} {l:List α} (hl:cells.length = l.length * k) (h:∀ i x,l[i]? = some x → (cells.drop (i * k)).take k = enc x):cells = l.flatMap enc:=by
 apply List.ext_getElem?
 intro t
 by_cases ht:t < l.length * k
 ·
  have h1:t / k < l.length:=Nat.div_lt_of_lt_mul (by rwa [Nat.mul_comm])
  have h2:t % k < k:=Nat.mod_lt _ hp
  have h3:=flatMap_get hk l (t / k) (t % k) l[t / k] (List.getElem?_eq_getElem h1) h2
  have h4:=h (t / k) l[t / k] (List.getElem?_eq_getElem h1)
  rw [← h4,List.getElem?_take,if_pos h2,List.getElem?_drop,Nat.mul_comm,Nat.div_add_mod] at h3
  exact h3.symm
 ·
  rw [List.getElem?_eq_none (by omega),List.getElem?_eq_none (by rw [flatMap_len hk];omega)]
theorem chunk_of {α:Type} {enc:α → List Value} {k:Nat} (hk:∀ x,(enc x).length = k) {l:List α} {i:Nat} {x:α} (hx:l[i]? = some x):((l.flatMap enc).drop (i * k)).take k = enc x:=by
 apply List.ext_getElem?
 intro j
 rw [List.getElem?_take]
 by_cases hj:j < k
 ·
  rw [if_pos hj,List.getElem?_drop,flatMap_get hk l i j x hx hj]
 ·
  rw [if_neg hj,List.getElem?_eq_none (by rw [hk];omega)]
theorem sorted_own {β:Type} [DecidableEq β] {enc:β → List Value} {fits S:β → Prop} {k:Nat} (hk:∀ x,(enc x).length = k) (hp:0 < k) (h1:∀ x,∀ u ∈ enc x,u.oneCell' = true) (z:β) (hz:S z)
  {P:Program} {ρ:Ren} {e:TypeId} {f:FuncId} {cf:β → β → Int} (eg:∀ args w,(callFunc f args).run P w = .ok (.enter f args) w) (aE:∀ w,(isAgg (ρ.t 24)).run P w = .ok true w) (zE:∀ w,(Go.sizeOf (ρ.t 24)).run P w = .ok k w)
  (L:SlLaysF0.n6 P ρ) (hO:SWO fun x y:{ t:β // S t }=>decide (cf x.1 y.1 < 0)) (hc:∀ (x y:β) (w:World),S x → S y → Calls P f #[.agg (enc x).toArray,.agg (enc y).toArray] w fun e w'=>e = .returned (.int .i64 (cf x y))∧Below w.heap.size w w')
  {l:List β} (hs:∀ t ∈ l,S t) {g cap base:Nat} {ok:Nat → Prop} {w:World} (ho:(held k hp enc fits hk h1).own e w base ok (.slice (some ⟨g,0,none⟩) l.length cap) l) :
  Calls P (ρ.f 6) #[.slice (some ⟨g,0,none⟩) l.length cap,.func (.func f) #[] #[]] w fun en w'=>en = .returned (.tuple #[])∧∃ l':List β,l'.Perm l∧l'.Pairwise (fun a b=>¬ cf b a < 0)∧(held k hp enc fits hk h1).own e w' base ok (.slice (some ⟨g,0,none⟩) l'.length cap) l'∧w.grownBy w' (some g):=by
 letI:Inhabited { t:β // S t }:=⟨⟨z,hz⟩⟩
 obtain ⟨hlen,cells,hr,hM⟩:=ho
 have hcells:cells = l.flatMap enc:=chunks hk hp (by have:=hr.1;exact this) (fun i x hx=>(hM i x hx).1)
 subst hcells
 have hfit:∀ t ∈ l,fits t:=fun t ht=>by
  obtain ⟨i,hi,rfl⟩:=List.mem_iff_getElem.1 ht
  exact (hM i _ (List.getElem?_eq_getElem hi)).2
 obtain ⟨ls,hls⟩:∃ ls:List { t:β // S t },ls.map (·.1) = l:=⟨l.attachWith S hs,by simp⟩
 have hll:ls.length = l.length:=by rw [← hls];simp
 have hfm:ls.flatMap (fun x=>enc x.1) = l.flatMap enc:=by rw [← hls,List.flatMap_map]
 have hk':∀ x:{ t:β // S t },((fun x:{ t:β // S t }=>enc x.1) x).length = k:=fun x=>hk x.1
 have hr':w.ownsRow base e k (.slice (some ⟨g,0,none⟩) ls.length cap) ls.length (ls.flatMap fun x=>enc x.1):=by rw [hll,hfm];exact hr
 have hlt:g < w.heap.size:=by
  rcases hr.2 with ⟨h,_⟩ | ⟨g',cap',cur,h,hg,hh,_⟩
  ·
   cases h
  ·
   cases h
   exact (Array.getElem?_eq_some_iff.1 hh).1
 have key:=AnyQ.slices_SortFunc L k aE zE (fun x:{ t:β // S t }=>enc x.1) hk' (fun x u hu=>h1 x.1 u hu) (fun x y=>cf x.1 y.1) hO f #[] g 0 cap ls.toArray w eg
  (cmp_lays (fun x y w=>hc x.1 y.1 w x.2 y.2) g 0 _ w) (holds_of hk' hp hr') hlt (by simp;omega)
 have hsz:ls.toArray.size = l.length:=by simp [hll]
 rw [hsz] at key
 refine key.mono ?_
 rintro en w' ⟨rfl,d',n,os,hperm,hsort,rfl⟩
 obtain ⟨p1,p2,p3⟩:=hperm
 have hd:d'.size = ls.length:=by rw [p1];simp
 obtain ⟨q1,q2⟩:=row_sorted (α:={ t:β // S t }) hk' hp hr' d' hd n os
 have hper:d'.toList.Perm ls:=by
  have e1:(d'.extract 0 l.length) = d':=by rw [← hll,← hd];simp
  have e2:(ls.toArray.extract 0 l.length) = ls.toArray:=by rw [← hll];simp
  rw [e1,e2] at p3
  simpa using p3
 have hlen':(d'.toList.map (·.1)).length = l.length:=by simp [hd,hll]
 refine ⟨rfl,d'.toList.map (·.1),?_,?_,⟨by rw [hlen'];exact hlen,_,?_,fun i x hx=>⟨chunk_of hk hx,?_⟩⟩,q2⟩
 ·
  rw [← hls]
  exact hper.map _
 ·
  rw [List.pairwise_map,List.pairwise_iff_getElem]
  intro i j hi hj hij hlt
  have:=hsort i j (Nat.zero_le _) hij (by have:j < d'.size:=(by simpa using hj);omega)
  unfold ltOf at this
  rw [decide_eq_false_iff_not] at this
  have hi':i < d'.size:=by simpa using hi
  have hj':j < d'.size:=by simpa using hj
  rw [getElem!_pos d' i hi',getElem!_pos d' j hj'] at this
  exact this hlt
 ·
  have:(d'.toList.map (·.1)).flatMap enc = d'.toList.flatMap (fun x=>enc x.1):=by rw [List.flatMap_map]
  rw [this,hlen',← hll]
  exact q1
 ·
  have hm:x ∈ d'.toList.map (·.1):=List.mem_of_getElem? hx
  have:x ∈ l:=by
   rw [← hls]
   exact (hper.map (·.1)).mem_iff.1 hm
  exact hfit x this
end Go.Proofs.YtnplommdgfgboaaGreatDoor.SortT
namespace Go.Proofs.YtnplommdgfgboaaGreatDoor.StoreW
open Go.RowKit Go.Lib B Rd TermPure LinesPure Tri OrdG
def idsL (x:Ids):List Value:=[.int .i64 (x.a:Nat),.int .i64 (x.b:Nat),.int .i64 (x.c:Nat)]
def FitsI (x:Ids):Prop:=x.a ≤ 140737488355328∧x.b ≤ 140737488355328∧x.c ≤ 140737488355328
def idsK:Kd Ids:=held 3 (by decide) idsL FitsI (fun _=>rfl) (fun t u hu=>by
 simp [idsL] at hu
 rcases hu with rfl | rfl | rfl <;> rfl)
def natZ (l:List Nat):List Int:=l.map fun (n:Nat)=>(n:Int)
theorem natZ_len (l:List Nat):(natZ l).length = l.length:=by simp [natZ]
def at3 (x:Ids):Nat → Nat
 | 0=>x.a
 | 1=>x.b
 | _=>x.c
theorem own_any {α:Type} {d:Kd α} {e:TypeId} {w:World} {base:Nat} {ok ok':Nat → Prop} {v:Value} {xs:List α} (hany:∀ (w:World) (ok ok':Nat → Prop) (x:α) (cs:List Value),d.M w ok x cs → d.M w ok' x cs) (h:d.own e w base ok v xs):d.own e w base ok' v xs:=by
 obtain ⟨h0,cells,h1,h2⟩:=h
 exact ⟨h0,cells,h1,fun i x hx=>hany _ _ _ _ _ (h2 i x hx)⟩
theorem own_from {α:Type} {d:Kd α} {e:TypeId} {w:World} {base:Nat} {ok:Nat → Prop} {v:Value} {xs:List α} (hany:∀ (w:World) (ok ok':Nat → Prop) (x:α) (cs:List Value),d.M w ok x cs → d.M w ok' x cs) (h:d.own e w base ok v xs):d.sl.M w (fun k=>base ≤ k) xs [v]:=
 Kd.own_sl (ok:=fun k=>base ≤ k) (own_any hany h) (fun k hk=>hk) (fun k hk=>hk)
structure WaveAt (w:World) (ok:Nat → Prop) (g:Nat) (l:List Nat):Prop where
 lt:ok g
 row:∃ A c,w.cell? ⟨g,0,none⟩ = some (.slice A l.length c)∧intK.sl.M w ok (natZ l) [.slice A l.length c]
structure RingAt (w:World) (ok:Nat → Prop) (g:Nat) (I:List Ids):Prop where
 lt:ok g
 cols:∀ j,j < 3 → ∃ h,w.cell? ⟨g,j,none⟩ = some (.pointer (some ⟨h,0,none⟩))∧WaveAt w ok h (I.map fun x=>at3 x j)
 row:∃ A c,w.cell? ⟨g,3,none⟩ = some (.slice A I.length c)∧idsK.sl.M w ok I [.slice A I.length c]
structure StoreAt (w:World) (ok:Nat → Prop) (g:Nat) (T:List Triple):Prop where
 lt:ok g
 tri:∃ A c,w.cell? ⟨g,0,none⟩ = some (.slice A T.length c)∧triK.sl.M w ok T [.slice A T.length c]
 terms:∃ A c,w.cell? ⟨g,1,none⟩ = some (.slice A (termsT T).length c)∧termK.sl.M w ok (termsT T) [.slice A (termsT T).length c]
 ring:∃ h,w.cell? ⟨g,2,none⟩ = some (.pointer (some ⟨h,0,none⟩))∧RingAt w ok h (idsT T)
section
variable {w w1 : World} {ok ok' : Nat → Prop} {g : Nat}
theorem cell_move (hm:∀ k,ok k → k < w.heap.size → w1.heap[k]? = w.heap[k]?) (hB:ok g) {o:Nat} {v:Value} (h:w.cell? ⟨g,o,none⟩ = some v):w1.cell? ⟨g,o,none⟩ = some v:=
 (World.cell?_of_block (a:=⟨g,o,none⟩) (hm g hB (World.block_lt_of_cell? w _ h))).trans h
theorem WaveAt.hp {l:List Nat} (h:WaveAt w ok g l):g < w.heap.size:=by
 obtain ⟨_,A,c,h3,_⟩:=h
 exact World.block_lt_of_cell? w _ h3
theorem RingAt.hp {I:List Ids} (h:RingAt w ok g I):g < w.heap.size:=by
 obtain ⟨_,_,A,c,h3,_⟩:=h
 exact World.block_lt_of_cell? w _ h3
theorem StoreAt.hp {T:List Triple} (h:StoreAt w ok g T):g < w.heap.size:=by
 obtain ⟨_,⟨A,c,h3,_⟩,_⟩:=h
 exact World.block_lt_of_cell? w _ h3
theorem WaveAt.move {l:List Nat} (h:WaveAt w ok g l) (hm:∀ k,ok k → k < w.heap.size → w1.heap[k]? = w.heap[k]?):WaveAt w1 ok g l:=by
 obtain ⟨h1,A,c,h3,h4⟩:=h
 exact ⟨h1,A,c,cell_move hm h1 h3,intK.sl.move hm h4⟩
theorem RingAt.move {I:List Ids} (h:RingAt w ok g I) (hm:∀ k,ok k → k < w.heap.size → w1.heap[k]? = w.heap[k]?):RingAt w1 ok g I:=by
 obtain ⟨h1,hc,A,c,h3,h4⟩:=h
 exact ⟨h1,fun j hj=>by obtain ⟨p,hp,hpw⟩:=hc j hj;exact ⟨p,cell_move hm h1 hp,hpw.move hm⟩,A,c,cell_move hm h1 h3,idsK.sl.move hm h4⟩
theorem StoreAt.move {T:List Triple} (h:StoreAt w ok g T) (hm:∀ k,ok k → k < w.heap.size → w1.heap[k]? = w.heap[k]?):StoreAt w1 ok g T:=by
 obtain ⟨h1,⟨A,c,h3,h4⟩,⟨A',c',h3',h4'⟩,r,hr,hrr⟩:=h
 exact ⟨h1,⟨A,c,cell_move hm h1 h3,triK.sl.move hm h4⟩,⟨A',c',cell_move hm h1 h3',termK.sl.move hm h4'⟩,r,cell_move hm h1 hr,hrr.move hm⟩
theorem StoreAt.below {T:List Triple} (h:StoreAt w ok g T) (hb:Below w.heap.size w w1):StoreAt w1 ok g T:=h.move (fun k _ hk=>hb.block k hk)
theorem RingAt.below {I:List Ids} (h:RingAt w ok g I) (hb:Below w.heap.size w w1):RingAt w1 ok g I:=h.move (fun k _ hk=>hb.block k hk)
theorem WaveAt.below {l:List Nat} (h:WaveAt w ok g l) (hb:Below w.heap.size w w1):WaveAt w1 ok g l:=h.move (fun k _ hk=>hb.block k hk)
theorem WaveAt.mono {l:List Nat} (h:WaveAt w ok g l) (hk:∀ k,ok k → k < w.heap.size → ok' k):WaveAt w ok' g l:=by
 have hg:=h.hp
 obtain ⟨h1,A,c,h3,h4⟩:=h
 exact ⟨hk g h1 hg,A,c,h3,intK.sl.mono hk h4⟩
theorem RingAt.mono {I:List Ids} (h:RingAt w ok g I) (hk:∀ k,ok k → k < w.heap.size → ok' k):RingAt w ok' g I:=by
 have hg:=h.hp
 obtain ⟨h1,hc,A,c,h3,h4⟩:=h
 exact ⟨hk g h1 hg,fun j hj=>by obtain ⟨p,hp,hpw⟩:=hc j hj;exact ⟨p,hp,hpw.mono hk⟩,A,c,h3,idsK.sl.mono hk h4⟩
theorem StoreAt.mono {T:List Triple} (h:StoreAt w ok g T) (hk:∀ k,ok k → k < w.heap.size → ok' k):StoreAt w ok' g T:=by
 have hg:=h.hp
 obtain ⟨h1,⟨A,c,h3,h4⟩,⟨A',c',h3',h4'⟩,r,hr,hrr⟩:=h
 exact ⟨hk g h1 hg,⟨A,c,h3,triK.sl.mono hk h4⟩,⟨A',c',h3',termK.sl.mono hk h4'⟩,r,hr,hrr.mono hk⟩
end
end Go.Proofs.YtnplommdgfgboaaGreatDoor.StoreW
namespace Go.Proofs.YtnplommdgfgboaaGreatDoor.Search
open Go.RowKit Go.Lib B Rd TermPure LinesPure Tri SortP OrdG TermW Cmp
def cmpV:Value:=.func (.func 89) #[] #[]
theorem term_cells {w:World} {ok:Nat → Prop} {l:List Term} {A:Option Addr} {c:Nat} (h:termK.sl.M w ok l [.slice A l.length c]) (hp:0 < l.length) :
  ∃ b off,A = some ⟨b,off,none⟩∧ok b∧b < w.heap.size∧∀ i (hi:i < l.length),C3 w b (off + i * 3) l[i]:=by
 obtain ⟨A',c',he,hlc,_,hA,hrow⟩:=h
 obtain ⟨rfl,rfl⟩:A = A'∧c = c':=by simpa using he
 obtain ⟨b,off,hAe,hok,hb,hcells⟩:=Kd.row_addr hrow hp
 refine ⟨b,off,hAe,hok,hb,fun i hi=>?_⟩
 obtain ⟨cs,⟨hcs,_⟩,hcell⟩:=hcells i hi
 subst hcs
 exact C3.of hcell
theorem C3.new (w:World) (t:Term):C3 (w.alloc (.cells (termL t).toArray 24)) w.heap.size 0 t:=by
 have h:=Tc.TC.new w t
 exact ⟨h.c0,h.c1,h.c2⟩
def posOf (R:List Term) (t:Term):Nat:=(R.takeWhile fun x=>decide (ltTm x t)).length
def foundAt (R:List Term) (t:Term):Bool:=match R[posOf R t]? with
 | some x=>decide (cmpTm x t = 0)
 | none=>false
theorem ends_pos:∀ {R:List Term} {t:Term} {i:Nat},TermW.Ends R t i → posOf R t = i
 | [],t,i,⟨h,_,_⟩=>by simp at h;simp [posOf,h]
 | x :: R,t,0,⟨_,_,h⟩=>by
  have:=h 0 (by simp) (Nat.le_refl _)
  simp at this
  simp [posOf,List.takeWhile_cons,this]
 | x :: R,t,i + 1,⟨h1,h2,h3⟩=>by
  have hx:=h2 0 (by simp) (by omega)
  simp at hx
  have ih:=ends_pos (R:=R) (t:=t) (i:=i) ⟨by simpa using h1,fun j h hj=>by have:=h2 (j + 1) (by simpa using h) (by omega);simpa using this,fun j h hj=>by have:=h3 (j + 1) (by simpa using h) (by omega);simpa using this⟩
  unfold posOf at *
  simp [List.takeWhile_cons,hx,ih]
theorem found_in {R:List Term} {t:Term} {i:Nat} (h:TermW.Ends R t i) (hi:i < R.length):foundAt R t = decide (cmpTm R[i] t = 0):=by
 unfold foundAt
 rw [ends_pos h,List.getElem?_eq_getElem hi]
theorem found_out {R:List Term} {t:Term} {i:Nat} (h:TermW.Ends R t i) (hi:¬ i < R.length):foundAt R t = false:=by
 unfold foundAt
 rw [ends_pos h,List.getElem?_eq_none (by omega)]
theorem ends_at:∀ {R:List Term} (t:Term),R.Pairwise ltTm → TermW.Ends R t (posOf R t)
 | [],t,_=>⟨by simp [posOf],fun j h=>by simp at h,fun j h=>by simp at h⟩
 | x :: R,t,hp=>by
  have hp':=List.pairwise_cons.1 hp
  obtain ⟨h1,h2,h3⟩:=ends_at t hp'.2
  by_cases hx:ltTm x t
  ·
   have e:posOf (x :: R) t = posOf R t + 1:=by simp [posOf,List.takeWhile_cons,hx]
   rw [e]
   refine ⟨by simpa using h1,fun j h hj=>?_,fun j h hj=>?_⟩
   ·
    cases j with
    | zero=>exact hx
    | succ j=>simpa using h2 j (by simpa using h) (by omega)
   ·
    cases j with
    | zero=>omega
    | succ j=>simpa using h3 j (by simpa using h) (by omega)
  ·
   have e:posOf (x :: R) t = 0:=by simp [posOf,List.takeWhile_cons,hx]
   rw [e]
   refine ⟨by simp,fun j h hj=>by omega,fun j h hj hlt=>?_⟩
   cases j with
   | zero=>exact hx hlt
   | succ j =>
    simp at hlt
    exact hx (List.lt_trans (hp'.1 _ (List.getElem_mem (by simpa using h))) hlt)
set_option maxHeartbeats 12800000 in
set_option maxRecDepth 100000 in
theorem search_calls (R:List Term) (t:Term) (hR:R.Pairwise ltTm) (hs:∀ x ∈ R,SmallM x) (hst:SmallM t) (A:Option Addr) (c:Nat) (w:World) (HL:termK.sl.M w (fun k=>k < w.heap.size) R [.slice A R.length c]) (hb:R.length ≤ 1000000) :
  Calls Tryz.prog 95 #[.slice A R.length c,Ref5.termV t,cmpV] w fun e w'=>e = .returned (.tuple #[.int .i64 (posOf R t:Nat),.bool (foundAt R t)])∧Below w.heap.size w w':=by
 have HRow:=Lib.hid (fun hp=>term_cells HL hp)
 have HS:=Lib.hid hs
 have HSt:=Lib.hid hst
 have HPw:=Lib.hid hR
 have HC0:=Lib.hid (C3.new w t)
 unfold cmpV Ref5.termV
 clear HL hs hst hR
 go_enter Tryz.func95,Tryz.ntmps95
 go_wp2
 go_loopw [9,10] (fun vi vj wr=>∃ i j:Nat,vi = .int .i64 i∧vj = .int .i64 j∧i ≤ j∧j ≤ R.length∧Hid ((∀ q (h:q < R.length),q < i → ltTm R[q] t)∧(∀ q (h:q < R.length),j ≤ q → ¬ ltTm R[q] t)∧Below w.heap.size w wr∧C3 wr w.heap.size 0 t)) (fun vi vj _=>(intOf vj).toNat - (intOf vi).toNat)
 case atStart=>exact ⟨0,R.length,rfl,rfl,by omega,by omega,Lib.hid ⟨fun q h h0=>by omega,fun q h h0=>by omega,bel_alloc (Below.refl _ _) _,HC0.out⟩⟩
 case round =>
  obtain ⟨i,j,rfl,rfl,hij,hjl,HI⟩:=hrel
  clear HC0
  by_cases hlt:i < j
  ·
   have hd:decide (i < j) = true:=decide_eq_true hlt
   obtain ⟨h,hh⟩:∃ h,h = (i + j) / 2:=⟨_,rfl⟩
   have hq:((i:Int) + (j:Int)) / 2 = (h:Int):=by omega
   have hih:i ≤ h:=by omega
   have hhj:h < j:=by omega
   clear hh
   have hhl:h < R.length:=by omega
   have hhb:(h:Int) < (R.length:Int):=by omega
   obtain ⟨b,off,rfl,_,hbs,hcells⟩:=HRow.out (by omega)
   have hcx:=(hcells h hhl).below HI.out.2.2.1
   have hcy:=HI.out.2.2.2
   obtain ⟨x,hx⟩:∃ x,x = R[h]:=⟨_,rfl⟩
   rw [← hx] at hcx
   have HCC:=Lib.hid (fun w=>termCmp_calls x t (by rw [hx];exact HS.out _ (List.getElem_mem hhl)) HSt.out w)
   obtain ⟨v,hv⟩:∃ v,v = cmpTm x t:=⟨_,rfl⟩
   rw [← hv] at HCC
   have HLo:Hid (v < 0 → ∀ q (hq:q < R.length),q < h + 1 → ltTm R[q] t):=Lib.hid (fun hneg q hq hqh=>by
    have hxt:ltTm R[h] t:=by rw [← hx];exact (cmpTm_lt x t).1 (by rw [← hv];exact hneg)
    by_cases e:q = h
    ·
     subst e;exact hxt
    ·
     exact List.lt_trans (List.pairwise_iff_getElem.1 HPw.out q h hq hhl (by omega)) hxt)
   have HHi:Hid (¬ v < 0 → ∀ q (hq:q < R.length),h ≤ q → ¬ ltTm R[q] t):=Lib.hid (fun hneg q hq hqh hlt2=>by
    have hxt:¬ ltTm R[h] t:=by rw [← hx];exact fun hl=>hneg (by rw [hv];exact (cmpTm_lt x t).2 hl)
    by_cases e:q = h
    ·
     subst e;exact hxt hlt2
    ·
     exact hxt (List.lt_trans (List.pairwise_iff_getElem.1 HPw.out h q hhl hq (by omega)) hlt2))
   have HIW:=Lib.hid HI.out
   clear hcells hx hv HI
   by_cases hv0:v < 0
   ·
    have hvd:decide (v < 0) = true:=decide_eq_true hv0
    have HNx:=Lib.hid (HLo.out hv0)
    clear HLo HHi hv0
    obtain ⟨xk,xt,xe⟩:=x
    obtain ⟨yk,yt,ye⟩:=t
    have x0:=fun p=>(hcx.bel p).c0
    have x1:=fun p=>(hcx.bel p).c1
    have x2:=fun p=>(hcx.bel p).c2
    have y0:=fun p=>(hcy.bel p).c0
    have y1:=fun p=>(hcy.bel p).c1
    have y2:=fun p=>(hcy.bel p).c2
    dsimp only at x0 x1 x2 y0 y1 y2
    unfold Ref5.termV at HCC
    dsimp only at HCC
    go_upto_region 5 with fail
    refine QT.region_all (by kernel_rfl) (by kernel_rfl) ?_
    iterate 6 (go_big_quiet_step (fail))
    go_big_quiet_step (exact QT.Bel.call _ (HCC.out _))
    iterate 1 (go_big_quiet_step (fail))
    refine wpQuiet_nil ?_
    intro w2 hw'
    obtain ⟨⟨_,hb2⟩,rfl⟩:=hw'
    have HB2:=Lib.hid (bel_step HIW.out.2.2.1 hb2)
    have HY2:=Lib.hid (hcy.below hb2)
    clear hb2 x0 x1 x2 y0 y1 y2 hcx hcy HCC
    go_wp2
    go_roundw
    case rel=>exact ⟨h + 1,j,by go_num,rfl,by omega,by omega,Lib.hid ⟨HNx.out,HIW.out.2.1,HB2.out,HY2.out⟩⟩
    case measure=>simp [intOf];omega
   ·
    have hvd:decide (v < 0) = false:=decide_eq_false hv0
    have HNx:=Lib.hid (HHi.out hv0)
    clear HLo HHi hv0
    obtain ⟨xk,xt,xe⟩:=x
    obtain ⟨yk,yt,ye⟩:=t
    have x0:=fun p=>(hcx.bel p).c0
    have x1:=fun p=>(hcx.bel p).c1
    have x2:=fun p=>(hcx.bel p).c2
    have y0:=fun p=>(hcy.bel p).c0
    have y1:=fun p=>(hcy.bel p).c1
    have y2:=fun p=>(hcy.bel p).c2
    dsimp only at x0 x1 x2 y0 y1 y2
    unfold Ref5.termV at HCC
    dsimp only at HCC
    go_upto_region 5 with fail
    refine QT.region_all (by kernel_rfl) (by kernel_rfl) ?_
    iterate 6 (go_big_quiet_step (fail))
    go_big_quiet_step (exact QT.Bel.call _ (HCC.out _))
    iterate 1 (go_big_quiet_step (fail))
    refine wpQuiet_nil ?_
    intro w2 hw'
    obtain ⟨⟨_,hb2⟩,rfl⟩:=hw'
    have HB2:=Lib.hid (bel_step HIW.out.2.2.1 hb2)
    have HY2:=Lib.hid (hcy.below hb2)
    clear hb2 x0 x1 x2 y0 y1 y2 hcx hcy HCC
    go_wp2
    go_roundw
    case rel=>exact ⟨i,h,rfl,rfl,by omega,by omega,Lib.hid ⟨HIW.out.1,HNx.out,HB2.out,HY2.out⟩⟩
    case measure=>simp [intOf];omega
  ·
   have hd:decide (i < j) = false:=decide_eq_false hlt
   obtain rfl:i = j:=by omega
   have HEnds:Hid (TermW.Ends R t i):=Lib.hid ⟨hjl,HI.out.1,HI.out.2.1⟩
   by_cases hin:i < R.length
   ·
    have hd2:decide (i < R.length) = true:=decide_eq_true hin
    have hib:(i:Int) < (R.length:Int):=by omega
    obtain ⟨b,off,rfl,_,hbs,hcells⟩:=HRow.out (by omega)
    have hcx:=(hcells i hin).below HI.out.2.2.1
    have hcy:=HI.out.2.2.2
    obtain ⟨x,hx⟩:∃ x,x = R[i]:=⟨_,rfl⟩
    rw [← hx] at hcx
    have HCC:=Lib.hid (fun w=>termCmp_calls x t (by rw [hx];exact HS.out _ (List.getElem_mem hin)) HSt.out w)
    obtain ⟨v,hv⟩:∃ v,v = cmpTm x t:=⟨_,rfl⟩
    rw [← hv] at HCC
    have HP:Hid (posOf R t = i∧foundAt R t = decide (v = 0)):=Lib.hid ⟨ends_pos HEnds.out,by rw [found_in HEnds.out hin,hv,hx]⟩
    have HIW:=Lib.hid HI.out.2.2.1
    clear hcells hx hv HI
    obtain ⟨xk,xt,xe⟩:=x
    obtain ⟨yk,yt,ye⟩:=t
    have x0:=fun p=>(hcx.bel p).c0
    have x1:=fun p=>(hcx.bel p).c1
    have x2:=fun p=>(hcx.bel p).c2
    have y0:=fun p=>(hcy.bel p).c0
    have y1:=fun p=>(hcy.bel p).c1
    have y2:=fun p=>(hcy.bel p).c2
    dsimp only at x0 x1 x2 y0 y1 y2
    unfold Ref5.termV at HCC
    dsimp only at HCC
    go_upto_region 8 with fail
    refine QT.region_all (by kernel_rfl) (by kernel_rfl) ?_
    iterate 11 (go_big_quiet_step (fail))
    go_big_quiet_step (exact QT.Bel.call _ (HCC.out _))
    iterate 4 (go_big_quiet_step (fail))
    refine wpQuiet_nil ?_
    intro w2 hw'
    obtain ⟨⟨_,hb2⟩,rfl⟩:=hw'
    have HB2:=Lib.hid (bel_step HIW.out hb2)
    clear hb2 x0 x1 x2 y0 y1 y2 hcx hcy HCC
    go_wp2
    go_ret2
    exact ⟨by rw [HP.out.1,HP.out.2];rfl,HB2.out⟩
   ·
    have hd2:decide (i < R.length) = false:=decide_eq_false hin
    have HB:=Lib.hid HI.out.2.2.1
    have HP:Hid (posOf R t = i∧foundAt R t = false):=Lib.hid ⟨ends_pos HEnds.out,found_out HEnds.out hin⟩
    clear HI
    go_upto_region 8 with fail
    go_quiet (fail)
    go_wp2
    go_ret2
    exact ⟨by rw [HP.out.1,HP.out.2];rfl,⟨HB.out.os,HB.out.tape,HB.out.output,HB.out.size,HB.out.block⟩⟩
set_option maxHeartbeats 3200000 in
set_option maxRecDepth 100000 in
theorem place_calls (R:List Term) (t:Term) (hR:R.Pairwise ltTm) (hs:∀ x ∈ R,SmallM x) (hst:SmallM t) (A:Option Addr) (c:Nat) (w:World) (HL:termK.sl.M w (fun k=>k < w.heap.size) R [.slice A R.length c]) (hb:R.length ≤ 1000000) :
  Calls Tryz.prog 47 #[.slice A R.length c,Ref5.termV t] w fun e w'=>e = .returned (.tuple #[.int .i64 (posOf R t:Nat),.bool (foundAt R t)])∧Below w.heap.size w w':=by
 have b0:Below w.heap.size w (w.alloc (.cells (termL t).toArray 24)):=bel_alloc (Below.refl _ _) _
 have HC:=Lib.hid (search_calls R t hR hs hst A c (w.alloc (.cells (termL t).toArray 24)) (Kd.M_bound (Kd.M_below HL b0)) hb)
 have HB0:=Lib.hid b0
 obtain ⟨y0,y1,y2⟩:=C3.new w t
 simp only [Nat.zero_add] at y1 y2
 clear HL hs hst hR b0
 obtain ⟨yk,yt,ye⟩:=t
 dsimp only at y0 y1 y2
 unfold cmpV termL Ref5.termV at *
 dsimp only at *
 generalize posOf R ⟨yk,yt,ye⟩ = i at *
 generalize foundAt R ⟨yk,yt,ye⟩ = b at *
 go_enter Tryz.func47,Tryz.ntmps47
 go_wp2_with fail
 refine HC.out.mono ?_
 rintro e w2 ⟨rfl,hb2⟩
 have HB2:=Lib.hid (bel_step HB0.out hb2)
 clear hb2 HC
 go_wp2
 go_ret2
 exact ⟨rfl,HB2.out⟩
theorem id_pure {R:List Term} {t:Term} (hR:R.Pairwise ltTm):(foundAt R t = false → idOf R t = 0)∧(foundAt R t = true → ∃ h:posOf R t < R.length,idOf R t = if R[posOf R t] = t then posOf R t + 1 else 0):=by
 have he:=ends_at t hR
 constructor
 ·
  intro h
  refine he.idOf hR (fun hi e=>?_)
  rw [found_in he hi,decide_eq_false_iff_not] at h
  exact h (by rw [e];exact (cmpL_zero _ _).2 rfl)
 ·
  intro h
  by_cases hi:posOf R t < R.length
  ·
   refine ⟨hi,?_⟩
   by_cases e:R[posOf R t] = t
   ·
    rw [if_pos e,idOf_at hR hi e]
   ·
    rw [if_neg e]
    exact he.idOf hR (fun _=>e)
  ·
   rw [found_out he hi] at h
   cases h
end Go.Proofs.YtnplommdgfgboaaGreatDoor.Search
namespace Go.Proofs.YtnplommdgfgboaaGreatDoor.PackW
open Go.RowKit Go.Lib B Rd StoreW
def TT:Nat → Prop:=fun _=>True
def bitAt (n k:Nat):Nat:=n / 2 ^ k % 2
def orAt (b:List UInt8) (at' v:Nat):List UInt8:=b.set (at' / 8) ((b[at' / 8]?.getD 0) ||| UInt8.ofNat (v * 2 ^ (at' % 8)))
def packNum (b:List UInt8) (from' n:Nat):Nat → List UInt8
 | 0=>b
 | k + 1=>orAt (packNum b from' n k) (from' + k) (bitAt n k)
def packF (l:List Nat) (wd:Nat):Nat → List UInt8
 | 0=>List.replicate ((l.length * wd + 7) / 8) 0
 | i + 1=>packNum (packF l wd i) (i * wd) (l[i]?.getD 0) wd
def packB (l:List Nat) (wd:Nat):List UInt8:=packF l wd l.length
theorem orAt_len (b:List UInt8) (a v:Nat):(orAt b a v).length = b.length:=by simp [orAt]
theorem packNum_len (b:List UInt8) (f n:Nat):∀ k,(packNum b f n k).length = b.length
 | 0=>rfl
 | k + 1=>by rw [packNum,orAt_len,packNum_len b f n k]
theorem packF_len (l:List Nat) (wd:Nat):∀ i,(packF l wd i).length = (l.length * wd + 7) / 8
 | 0=>by simp [packF]
 | i + 1=>by rw [packF,packNum_len,packF_len l wd i]
theorem nat_bits (n:Nat) (h:n < 9223372036854775808):(BitVec.ofInt 64 (n:Int)).toNat = n:=by
 rw [BitVec.toNat_ofInt]
 omega
theorem and_1 (n:Nat) (h:n < 9223372036854775808):Go.bits .and .i64 (n:Int) 1 = ((n % 2:Nat):Int):=by
 have e:Go.bits .and .i64 (n:Int) 1 = IntKind.i64.wrap (((BitVec.ofInt 64 (n:Int)).toNat &&& 1:Nat):Int):=by
  simp only [bits,BitVec.toNat_and]
  rfl
 rw [e,nat_bits n h,show n &&& 1 = n % 2 from Nat.and_two_pow_sub_one_eq_mod n 1,IntKind.wrap_i64]
 omega
theorem u8_or_nat (a b:Nat) (ha:a < 256) (hb:b < 256):Go.bits .or .u8 (a:Int) (b:Int) = ((a ||| b:Nat):Int):=by
 have hx:a ||| b < 2 ^ 8:=Nat.or_lt_two_pow (by omega) (by omega)
 show IntKind.u8.wrap ((BitVec.ofInt 8 (a:Int) ||| BitVec.ofInt 8 (b:Int)).toNat:Int) = _
 rw [BitVec.toNat_or,ofInt_u8 a ha,ofInt_u8 b hb,IntKind.wrap_u8']
 omega
theorem and_at (n k:Nat) (h:n < 9223372036854775808):Go.bits .and .i64 ((n:Int) / 2 ^ k) 1 = (bitAt n k:Nat):=by
 have e:(n:Int) / 2 ^ k = ((n / 2 ^ k:Nat):Int):=by push_cast;rfl
 rw [e,and_1 _ (Nat.lt_of_le_of_lt (Nat.div_le_self _ _) h)]
 try rfl
theorem or_at (x:UInt8) (z t:Nat):Go.bits .or .u8 (x.toNat:Int) ((z:Int) % 256 * 2 ^ t % 256) = ((x ||| UInt8.ofNat (z * 2 ^ t)).toNat:Int):=by
 have e:(z:Int) % 256 * 2 ^ t % 256 = ((z * 2 ^ t % 256:Nat):Int):=by
  have e1:z % 256 * 2 ^ t % 256 = z * 2 ^ t % 256:=by rw [Nat.mul_mod,Nat.mod_mod,← Nat.mul_mod]
  rw [← e1]
  simp only [Int.natCast_emod,Int.natCast_mul,Int.natCast_pow]
  rfl
 rw [e,u8_or_nat _ _ x.toNat_lt (Nat.mod_lt _ (by decide)),UInt8.toNat_or,UInt8.toNat_ofNat']
theorem info_u8:(Tryz.prog.info? 5).map (fun i=>(i.zero,i.size,i.bytes)) = some (some (.int .u8 0),1,1):=by kernel_rfl
theorem made_row {W:World} {base g n:Nat} (hb:base ≤ g) (hn:n ≤ 140737488355328) (hh:W.heap[g]? = some (.cells (madeCells #[.int .u8 0] n) 5 (0,0))) :
  byteK.own 5 W base TT (.slice (some ⟨g,0,none⟩) n n) (List.replicate n 0):=by
 refine Kd.own_make (z:=.int .u8 0) hn rfl (fun _ _=>rfl) ⟨by simp,.inr ⟨g,n,_,rfl,hb,hh,Nat.le_refl _,by unfold maxLen;omega,by simp [madeCells],?_⟩⟩
 rw [toList_madeCells_one]
 simp
theorem width_calls (n:Nat) (hn:n ≤ 9223372036854775807) (w:World):Calls Tryz.prog 59 #[.int .i64 n] w fun e w'=>e = .returned (.int .i64 (Lib.bitLen n:Nat))∧w = w':=by
 have HB:=Lib.hid (fun w=>Tryz.bits_Len (n:Int) w (by omega) (by omega))
 rw [Int.toNat_natCast] at HB
 generalize Lib.bitLen n = b at *
 have hmax:max (n:Int) 0 = (n:Int):=by omega
 have hw:IntKind.u64.wrap (n:Int) = (n:Int):=by rw [IntKind.wrap_u64];omega
 go_enter Tryz.func59,Tryz.ntmps59
 go_wp2_with fail
 refine (HB.out _).mono ?_
 rintro e w2 ⟨rfl,rfl⟩
 go_wp2
 go_ret
 exact ⟨rfl,rfl⟩
theorem fits_calls (n wd:Nat) (h1:n ≤ 1000) (h2:wd ≤ 20) (w:World):Calls Tryz.prog 100 #[.int .i64 n,.int .i64 wd] w fun e w'=>e = .returned (.bool true)∧w = w':=by
 have a1:(0:Int) ≤ (n:Int):=by omega
 have a2:(0:Int) ≤ (wd:Int):=by omega
 have a3:(n:Int) ≤ 1000:=by omega
 have a4:(wd:Int) ≤ 20:=by omega
 go_enter Tryz.func100,Tryz.ntmps100
 go_wp2
 go_ret
 exact ⟨rfl,rfl⟩
theorem size_calls (n:Nat) (h1:n ≤ 1000000) (w:World):Calls Tryz.prog 101 #[.int .i64 n] w fun e w'=>e = .returned (.int .i64 ((n + 7) / 8:Nat))∧w = w':=by
 have q1:IntKind.i64.wrap ((n:Int) + 8) = (n:Int) + 8:=by rw [IntKind.wrap_i64];omega
 have q2:IntKind.i64.wrap ((n:Int) + 8 - 1) = ((n + 7:Nat):Int):=by rw [IntKind.wrap_i64];omega
 have q3:((n + 7:Nat):Int).tdiv 8 = ((n + 7) / 8:Nat):=by rfl
 go_enter Tryz.func101,Tryz.ntmps101
 go_wp2
 go_ret
 exact ⟨rfl,rfl⟩
theorem int_cells {w:World} {ok:Nat → Prop} {l:List Nat} {A:Option Addr} {c:Nat} (h:intK.sl.M w ok (natZ l) [.slice A l.length c]) (hp:0 < l.length) :
  ∃ b off,A = some ⟨b,off,none⟩∧ok b∧b < w.heap.size∧∀ i (hi:i < l.length),w.cell? ⟨b,off + i,none⟩ = some (.int .i64 (l[i]:Nat)):=by
 obtain ⟨A',c',he,hlc,_,hA,hrow⟩:=h
 have hz:(natZ l).length = l.length:=by simp [natZ]
 obtain ⟨rfl,rfl⟩:A = A'∧c = c':=by simpa [hz] using he
 obtain ⟨b,off,hAe,hok,hcells⟩:=Kd.row_plain rfl hrow (by omega)
 have hget:∀ i (hi:i < l.length),w.cell? ⟨b,off + i,none⟩ = some (.int .i64 (l[i]:Nat)):=fun i hi=>by
  obtain ⟨u,hu,hM⟩:=hcells i (by omega)
  have e:(natZ l)[i]'(by omega) = ((l[i]:Nat):Int):=by simp [natZ]
  rw [e] at hM
  obtain ⟨h1,_⟩:=hM
  simp at h1
  rw [hu,h1]
 exact ⟨b,off,hAe,hok,cell_lt (hget 0 hp),hget⟩
set_option maxHeartbeats 6400000 in
set_option maxRecDepth 100000 in
theorem pack_calls (l:List Nat) (wd:Nat) (hw:wd ≤ 20) (hl:l.length ≤ 1000) (hn:∀ n ∈ l,n ≤ 1000000∧Lib.bitLen n ≤ wd) (A:Option Addr) (c:Nat) (w:World) (HL:intK.sl.M w (fun k=>k < w.heap.size) (natZ l) [.slice A l.length c]) :
  Calls Tryz.prog 58 #[.slice A l.length c,.int .i64 wd] w fun e w'=>(∃ v,e = .returned (.tuple #[v,.int .i64 0])∧byteK.own 5 w' w.heap.size TT v (packB l wd))∧Below w.heap.size w w':=by
 have HRow:=Lib.hid (fun hp=>int_cells HL hp)
 have HN:=Lib.hid hn
 obtain ⟨m,hm⟩:∃ m,m = l.length * wd:=⟨_,rfl⟩
 have hmul:(l.length:Int) * (wd:Int) = (m:Int):=by rw [hm];rfl
 have hmb:m ≤ 20000:=by rw [hm];exact Nat.le_trans (Nat.mul_le_mul hl hw) (by decide)
 have hwm:IntKind.i64.wrap (m:Int) = (m:Int):=by rw [IntKind.wrap_i64];omega
 have HM:=Lib.hid hm
 obtain ⟨sz,hsz⟩:∃ sz,sz = (m + 7) / 8:=⟨_,rfl⟩
 have hszb:sz ≤ 2501:=by omega
 have HSz:=Lib.hid hsz
 have HF:=Lib.hid (fun w=>fits_calls l.length wd hl hw w)
 have HS:=Lib.hid (fun w=>size_calls m (by omega) w)
 rw [← hsz] at HS
 have hmk:=run_make_row' (P:=Tryz.prog) 55 5 (.int .u8 0) 1 Tryz.underlying55 info_u8 rfl .i64 .i64 sz (by omega) (by omega)
 have HB0:Hid (Below w.heap.size w (w.alloc (.cells (madeCells #[.int .u8 0] sz) 5))):=Lib.hid (bel_alloc (Below.refl _ _) _)
 have HO0:Hid (byteK.own 5 (w.alloc (.cells (madeCells #[.int .u8 0] sz) 5)) w.heap.size TT (.slice (some ⟨w.heap.size,0,none⟩) sz sz) (packF l wd 0)):=Lib.hid (by
  rw [packF,← HM.out,← HSz.out]
  exact made_row (Nat.le_refl _) (by omega) (Kd.heap_new _ _))
 generalize madeCells #[.int .u8 0] sz = C0 at *
 clear HL hn hm hsz
 go_enter Tryz.func58,Tryz.ntmps58
 go_wp2_with fail
 refine (HF.out _).mono ?_
 rintro e w2 ⟨rfl,rfl⟩
 go_wp2_with fail
 refine (HS.out _).mono ?_
 rintro e w3 ⟨rfl,rfl⟩
 go_wp2
 go_loopw [24] (fun vi wr=>∃ i:Nat,vi = .int .i64 i∧i ≤ l.length∧Hid (byteK.own 5 wr w.heap.size TT (.slice (some ⟨w.heap.size,0,none⟩) sz sz) (packF l wd i)∧Below w.heap.size w wr)) (fun vi _=>l.length - (intOf vi).toNat)
 case atStart=>exact ⟨0,rfl,by omega,Lib.hid ⟨HO0.out,HB0.out⟩⟩
 case round =>
  obtain ⟨i,rfl,hiL,HI⟩:=hrel
  clear HO0 HB0 hmk
  by_cases hlt:i < l.length
  ·
   have hd:decide (i < l.length) = true:=decide_eq_true hlt
   have ik:(i:Int) < (l.length:Int):=by omega
   obtain ⟨b,off,rfl,hbs,_,hcells⟩:=HRow.out (by omega)
   have hc:=(HI.out.2.cell (p:=⟨b,off + i,none⟩) hbs).trans (hcells i hlt)
   obtain ⟨n,hne⟩:∃ n,n = l[i]:=⟨_,rfl⟩
   rw [← hne] at hc
   obtain ⟨hnb,hnw⟩:=HN.out n (by rw [hne];exact List.getElem_mem hlt)
   have HW:=Lib.hid (fun w=>width_calls n (by omega) w)
   obtain ⟨q,hq⟩:∃ q,q = Lib.bitLen n:=⟨_,rfl⟩
   rw [← hq] at HW hnw
   have hn0:¬ (n:Int) < 0:=by omega
   have hqw:¬ (wd:Int) < (q:Int):=by omega
   obtain ⟨P0,hP0⟩:∃ P0,P0 = packF l wd i:=⟨_,rfl⟩
   have HNext:Hid (packF l wd (i + 1) = packNum P0 (i * wd) n wd):=Lib.hid (by rw [packF,← hP0,hne,List.getElem?_eq_getElem hlt];rfl)
   have HLen:Hid (P0.length = sz):=Lib.hid (by rw [hP0,packF_len,← HM.out,← HSz.out])
   have HOi:Hid (byteK.own 5 wr w.heap.size TT (.slice (some ⟨w.heap.size,0,none⟩) sz sz) (packNum P0 (i * wd) n 0)):=Lib.hid (by rw [packNum,hP0];exact HI.out.1)
   have HBi:=Lib.hid HI.out.2
   obtain ⟨fr,hfr⟩:∃ fr,fr = i * wd:=⟨_,rfl⟩
   have hfri:(i:Int) * (wd:Int) = (fr:Int):=by rw [hfr];rfl
   have hfrb:fr + wd ≤ m:=by
    rw [hfr,HM.out]
    have:=Nat.mul_le_mul_right wd (show i + 1 ≤ l.length from hlt)
    rw [Nat.succ_mul] at this
    exact this
   rw [← hfr] at HNext HOi
   clear hcells hne hq hP0 hfr
   go_wp2_with fail
   refine (HW.out _).mono ?_
   rintro e w4 ⟨rfl,rfl⟩
   go_wp2
   go_loopw [38] (fun vk wx=>∃ k:Nat,vk = .int .i64 k∧k ≤ wd∧Hid (byteK.own 5 wx w.heap.size TT (.slice (some ⟨w.heap.size,0,none⟩) sz sz) (packNum P0 fr n k)∧Below w.heap.size w wx)) (fun vk _=>wd - (intOf vk).toNat)
   case atStart=>exact ⟨0,rfl,by omega,Lib.hid ⟨HOi.out,HBi.out⟩⟩
   case round =>
    obtain ⟨k,rfl,hkw,HK⟩:=hrel
    clear HOi HBi
    by_cases hkl:k < wd
    ·
     have hd2:decide (k < wd) = true:=decide_eq_true hkl
     have hjs:(fr + k) / 8 < sz:=by have:=HSz.out;omega
     have jz:(((fr + k) / 8:Nat):Int) < (sz:Int):=by omega
     have hlen:(packNum P0 fr n k).length = sz:=by rw [packNum_len,HLen.out]
     obtain ⟨u,hcu,hu⟩:=Kd.own_cell (i:=(fr + k) / 8) rfl HK.out.1 (by omega)
     obtain ⟨x,hx⟩:∃ x:UInt8,x = (packNum P0 fr n k)[(fr + k) / 8]'(by omega):=⟨_,rfl⟩
     obtain rfl:u = .int .u8 (x.toNat:Int):=by rw [hx];simpa [byteK,flat] using hu
     obtain ⟨z,hz⟩:∃ z,z = bitAt n k:=⟨_,rfl⟩
     have hand:=and_at n k (by omega)
     rw [← hz] at hand
     have hor:=or_at x z ((fr + k) % 8)
     obtain ⟨y,hy⟩:∃ y,y = x ||| UInt8.ofNat (z * 2 ^ ((fr + k) % 8)):=⟨_,rfl⟩
     rw [← hy] at hor
     have HSet:Hid (∀ w2,Below wr.heap.size wr w2 → byteK.own 5 (w2.setCell ⟨w.heap.size,(fr + k) / 8,none⟩ (.int .u8 (y.toNat:Int))) w.heap.size TT (.slice (some ⟨w.heap.size,0,none⟩) sz sz) (packNum P0 fr n (k + 1))∧Below w.heap.size w (w2.setCell ⟨w.heap.size,(fr + k) / 8,none⟩ (.int .u8 (y.toNat:Int)))∧w2.cell? ⟨w.heap.size,(fr + k) / 8,none⟩ = some (.int .u8 (x.toNat:Int))∧w2.frozen? ⟨w.heap.size,(fr + k) / 8,none⟩ = false):=Lib.hid (fun w2 hb2=>by
      have h1:=Kd.own_below HK.out.1 hb2
      have h2:=Kd.own_set (u:=.int .u8 (y.toNat:Int)) rfl h1 (i:=(fr + k) / 8) (by omega) (x:=y) rfl
      have e:packNum P0 fr n (k + 1) = (packNum P0 fr n k).set ((fr + k) / 8) y:=by
       rw [packNum,orAt,← hz,List.getElem?_eq_getElem (by omega),← hx,hy]
       try rfl
      rw [e]
      have hgl:=cell_lt hcu
      exact ⟨h2,bel_set (bel_step HK.out.2 hb2) (Nat.le_refl _) _,(hb2.cell (p:=⟨w.heap.size,(fr + k) / 8,none⟩) hgl).trans hcu,Kd.own_frozen h1 _⟩)
     have hcp:=fun p:QT.Bel wr=>p.cell hcu
     clear hu hx hz hy
     go_upto_region 13 with fail
     refine QT.region_bel 15 (by kernel_rfl) (by kernel_rfl) ?_
     simp only [List.take_succ_cons,List.take_zero,List.drop_succ_cons,List.drop_zero]
     iterate 15 (go_big_quiet_step (fail))
     refine wpQuiet_nil ?_
     intro w2 hw'
     obtain ⟨⟨_,hb2⟩,rfl⟩:=hw'
     obtain ⟨h1,h2,hc2,hf2⟩:=HSet.out w2 hb2
     have HN1:=Lib.hid h1
     have HN2:=Lib.hid h2
     clear h1 h2 hb2 HSet hcp hcu HK
     go_wp2
     go_roundw
     case rel=>exact ⟨k + 1,by go_num,by omega,Lib.hid ⟨HN1.out,HN2.out⟩⟩
     case measure=>simp [intOf];omega
    ·
     have hd2:decide (k < wd) = false:=decide_eq_false hkl
     obtain rfl:k = wd:=by omega
     have HK2:Hid (byteK.own 5 wr w.heap.size TT (.slice (some ⟨w.heap.size,0,none⟩) sz sz) (packF l k (i + 1))):=Lib.hid (by rw [HNext.out];exact HK.out.1)
     have HB2:=Lib.hid HK.out.2
     clear HK
     go_wp2
     go_roundw
     case rel=>exact ⟨i + 1,by go_num,by omega,Lib.hid ⟨HK2.out,HB2.out⟩⟩
     case measure=>simp [intOf];omega
  ·
   have hd:decide (i < l.length) = false:=decide_eq_false hlt
   obtain rfl:i = l.length:=by omega
   have HI2:=Lib.hid HI.out
   clear HI
   go_wp2
   go_ret2
   exact ⟨⟨_,rfl,HI2.out.1⟩,HI2.out.2⟩
end Go.Proofs.YtnplommdgfgboaaGreatDoor.PackW
namespace Go.Proofs.YtnplommdgfgboaaGreatDoor.Clones
open Go.RowKit Go.Lib B Rd TermPure LinesPure Tri OrdG StoreW
def TT:Nat → Prop:=fun _=>True
def zero_term:Value:=.agg #[.int .i64 0,.string ⟨#[]⟩,.string ⟨#[]⟩]
theorem info_term:(Tryz.prog.info? 24).map (fun i=>(i.zero,i.size,i.bytes)) = some (some zero_term,termK.sz,40):=by kernel_rfl
theorem any_term:∀ (w:World) (ok ok':Nat → Prop) (x:Term) (cs:List Value),termK.M w ok x cs → termK.M w ok' x cs:=fun _ _ _ _ _ h=>h
set_option maxHeartbeats 3200000 in
set_option maxRecDepth 100000 in
theorem clone_term_calls (l:List Term) (A:Option Addr) (c:Nat) (w:World) (HL:termK.sl.M w (fun _=>True) l [.slice A l.length c]) (hb:l.length * 40 ≤ 140737488355328) :
  Calls Tryz.prog 46 #[.slice A l.length c] w fun e w'=>(∃ v,e = .returned v∧termK.own 24 w' w.heap.size TT v l)∧Below w.heap.size w w':=by
 have HM:=Lib.hid HL
 obtain ⟨A',c',he,h1,h2,h3,hr⟩:=HL
 obtain ⟨rfl,rfl⟩:A = A'∧c = c':=by simpa using he
 cases A with
 | none =>
  have hc:=h3 rfl
  have hl0:l = []:=List.eq_nil_of_length_eq_zero (by omega)
  subst hl0 hc
  have HO:Hid (termK.own 24 w w.heap.size TT (.slice none 0 0) []):=Lib.hid (Kd.own_nil _ _ _ _ _)
  clear he h1 h2 h3 hr HM hb
  simp only [List.length_nil]
  have hq:∀ w,Sem.run Tryz.prog (binOp BinOp.eql 31 (Value.slice none 0 0) (Value.slice none 0 0)) w = .ok (.bool true) w:=fun w=>run_eql_nil_slice w 31 24 none 0 0 0 0 Tryz.underlying31
  go_enter Tryz.func46,Tryz.ntmps46
  go_wp2
  go_ret
  exact ⟨⟨_,rfl,HO.out⟩,Below.refl _ _⟩
 | some ad =>
  have b0:Below w.heap.size w (w.alloc (.cells #[] 24)):=bel_alloc (Below.refl _ _) _
  have HO0:Hid (termK.own 24 (w.alloc (.cells #[] 24)) w.heap.size TT (.slice (some ⟨w.heap.size,0,none⟩) 0 0) []):=
   Lib.hid (Kd.own_block (cells:=[]) (xs:=[]) (Nat.le_refl _) (Kd.heap_new _ _) rfl (by simp) (fun i x h=>by simp at h))
  have HR0:=Lib.hid (Kd.M_below HM.out b0)
  clear he h1 h2 h3 hr
  have hq:∀ w,Sem.run Tryz.prog (binOp BinOp.eql 31 (Value.slice (some ad) l.length c) (Value.slice none 0 0)) w = .ok (.bool false) w:=fun w=>Lib.run_eql_slice_nil w 31 24 (some ad) l.length c 0 0 Tryz.underlying31
  go_enter Tryz.func46,Tryz.ntmps46
  go_wp2_with (at_builtin;refine Kd.own_app termK w.heap.size rfl (.tmp 5) (.tmp 6) 31 24 zero_term 40 rfl Tryz.underlying31 info_term rfl (by decide) _ [] l (some ad) c TT rfl rfl HO0.out (.inr ⟨HR0.out,any_term⟩) b0 (by simp) (by simp;omega) ?_;intro v1 w1 ho1 hb1 hg1 hv1;clear hg1 hv1;rw [List.nil_append] at ho1;have HO1:=Lib.hid ho1;have HB1:=Lib.hid hb1;clear ho1 hb1 b0)
  go_wp2
  go_ret
  exact ⟨⟨_,rfl,HO1.out⟩,HB1.out⟩
def zero_ids:Value:=.agg #[.int .i64 0,.int .i64 0,.int .i64 0]
theorem info_ids:(Tryz.prog.info? 40).map (fun i=>(i.zero,i.size,i.bytes)) = some (some zero_ids,idsK.sz,24):=by kernel_rfl
theorem any_ids:∀ (w:World) (ok ok':Nat → Prop) (x:Ids) (cs:List Value),idsK.M w ok x cs → idsK.M w ok' x cs:=fun _ _ _ _ _ h=>h
set_option maxHeartbeats 3200000 in
set_option maxRecDepth 100000 in
theorem clone_ids_calls (l:List Ids) (A:Option Addr) (c:Nat) (w:World) (HL:idsK.sl.M w (fun _=>True) l [.slice A l.length c]) (hb:l.length * 24 ≤ 140737488355328) :
  Calls Tryz.prog 52 #[.slice A l.length c] w fun e w'=>(∃ v,e = .returned v∧idsK.own 40 w' w.heap.size TT v l)∧Below w.heap.size w w':=by
 have HM:=Lib.hid HL
 obtain ⟨A',c',he,h1,h2,h3,hr⟩:=HL
 obtain ⟨rfl,rfl⟩:A = A'∧c = c':=by simpa using he
 cases A with
 | none =>
  have hc:=h3 rfl
  have hl0:l = []:=List.eq_nil_of_length_eq_zero (by omega)
  subst hl0 hc
  have HO:Hid (idsK.own 40 w w.heap.size TT (.slice none 0 0) []):=Lib.hid (Kd.own_nil _ _ _ _ _)
  clear he h1 h2 h3 hr HM hb
  simp only [List.length_nil]
  have hq:∀ w,Sem.run Tryz.prog (binOp BinOp.eql 48 (Value.slice none 0 0) (Value.slice none 0 0)) w = .ok (.bool true) w:=fun w=>run_eql_nil_slice w 48 40 none 0 0 0 0 Tryz.underlying48
  go_enter Tryz.func52,Tryz.ntmps52
  go_wp2
  go_ret
  exact ⟨⟨_,rfl,HO.out⟩,Below.refl _ _⟩
 | some ad =>
  have b0:Below w.heap.size w (w.alloc (.cells #[] 40)):=bel_alloc (Below.refl _ _) _
  have HO0:Hid (idsK.own 40 (w.alloc (.cells #[] 40)) w.heap.size TT (.slice (some ⟨w.heap.size,0,none⟩) 0 0) []):=
   Lib.hid (Kd.own_block (cells:=[]) (xs:=[]) (Nat.le_refl _) (Kd.heap_new _ _) rfl (by simp) (fun i x h=>by simp at h))
  have HR0:=Lib.hid (Kd.M_below HM.out b0)
  clear he h1 h2 h3 hr
  have hq:∀ w,Sem.run Tryz.prog (binOp BinOp.eql 48 (Value.slice (some ad) l.length c) (Value.slice none 0 0)) w = .ok (.bool false) w:=fun w=>Lib.run_eql_slice_nil w 48 40 (some ad) l.length c 0 0 Tryz.underlying48
  go_enter Tryz.func52,Tryz.ntmps52
  go_wp2_with (at_builtin;refine Kd.own_app idsK w.heap.size rfl (.tmp 5) (.tmp 6) 48 40 zero_ids 24 rfl Tryz.underlying48 info_ids rfl (by decide) _ [] l (some ad) c TT rfl rfl HO0.out (.inr ⟨HR0.out,any_ids⟩) b0 (by simp) (by simp;omega) ?_;intro v1 w1 ho1 hb1 hg1 hv1;clear hg1 hv1;rw [List.nil_append] at ho1;have HO1:=Lib.hid ho1;have HB1:=Lib.hid hb1;clear ho1 hb1 b0)
  go_wp2
  go_ret
  exact ⟨⟨_,rfl,HO1.out⟩,HB1.out⟩
def zero_int:Value:=.int .i64 0
theorem info_int:(Tryz.prog.info? 3).map (fun i=>(i.zero,i.size,i.bytes)) = some (some zero_int,intK.sz,8):=by kernel_rfl
theorem any_int:∀ (w:World) (ok ok':Nat → Prop) (x:Int) (cs:List Value),intK.M w ok x cs → intK.M w ok' x cs:=fun _ _ _ _ _ h=>h
set_option maxHeartbeats 3200000 in
set_option maxRecDepth 100000 in
theorem clone_int_calls (l:List Int) (A:Option Addr) (c:Nat) (w:World) (HL:intK.sl.M w (fun _=>True) l [.slice A l.length c]) (hb:l.length * 8 ≤ 140737488355328) :
  Calls Tryz.prog 185 #[.slice A l.length c] w fun e w'=>(∃ v,e = .returned v∧intK.own 3 w' w.heap.size TT v l)∧Below w.heap.size w w':=by
 have HM:=Lib.hid HL
 obtain ⟨A',c',he,h1,h2,h3,hr⟩:=HL
 obtain ⟨rfl,rfl⟩:A = A'∧c = c':=by simpa using he
 cases A with
 | none =>
  have hc:=h3 rfl
  have hl0:l = []:=List.eq_nil_of_length_eq_zero (by omega)
  subst hl0 hc
  have HO:Hid (intK.own 3 w w.heap.size TT (.slice none 0 0) []):=Lib.hid (Kd.own_nil _ _ _ _ _)
  clear he h1 h2 h3 hr HM hb
  simp only [List.length_nil]
  have hq:∀ w,Sem.run Tryz.prog (binOp BinOp.eql 74 (Value.slice none 0 0) (Value.slice none 0 0)) w = .ok (.bool true) w:=fun w=>run_eql_nil_slice w 74 3 none 0 0 0 0 Tryz.underlying74
  go_enter Tryz.func185,Tryz.ntmps185
  go_wp2
  go_ret
  exact ⟨⟨_,rfl,HO.out⟩,Below.refl _ _⟩
 | some ad =>
  have b0:Below w.heap.size w (w.alloc (.cells #[] 3)):=bel_alloc (Below.refl _ _) _
  have HO0:Hid (intK.own 3 (w.alloc (.cells #[] 3)) w.heap.size TT (.slice (some ⟨w.heap.size,0,none⟩) 0 0) []):=
   Lib.hid (Kd.own_block (cells:=[]) (xs:=[]) (Nat.le_refl _) (Kd.heap_new _ _) rfl (by simp) (fun i x h=>by simp at h))
  have HR0:=Lib.hid (Kd.M_below HM.out b0)
  clear he h1 h2 h3 hr
  have hq:∀ w,Sem.run Tryz.prog (binOp BinOp.eql 74 (Value.slice (some ad) l.length c) (Value.slice none 0 0)) w = .ok (.bool false) w:=fun w=>Lib.run_eql_slice_nil w 74 3 (some ad) l.length c 0 0 Tryz.underlying74
  go_enter Tryz.func185,Tryz.ntmps185
  go_wp2_with (at_builtin;refine Kd.own_app intK w.heap.size rfl (.tmp 5) (.tmp 6) 74 3 zero_int 8 rfl Tryz.underlying74 info_int rfl (by decide) _ [] l (some ad) c TT rfl rfl HO0.out (.inr ⟨HR0.out,any_int⟩) b0 (by simp) (by simp;omega) ?_;intro v1 w1 ho1 hb1 hg1 hv1;clear hg1 hv1;rw [List.nil_append] at ho1;have HO1:=Lib.hid ho1;have HB1:=Lib.hid hb1;clear ho1 hb1 b0)
  go_wp2
  go_ret
  exact ⟨⟨_,rfl,HO1.out⟩,HB1.out⟩
def zero_str:Value:=.string ⟨#[]⟩
theorem info_str:(Tryz.prog.info? 9).map (fun i=>(i.zero,i.size,i.bytes)) = some (some zero_str,strK.sz,16):=by kernel_rfl
theorem any_str:∀ (w:World) (ok ok':Nat → Prop) (x:ByteArray) (cs:List Value),strK.M w ok x cs → strK.M w ok' x cs:=fun _ _ _ _ _ h=>h
set_option maxHeartbeats 3200000 in
set_option maxRecDepth 100000 in
theorem clone_str_calls (l:List ByteArray) (A:Option Addr) (c:Nat) (w:World) (HL:strK.sl.M w (fun _=>True) l [.slice A l.length c]) (hb:l.length * 16 ≤ 140737488355328) :
  Calls Tryz.prog 99 #[.slice A l.length c] w fun e w'=>(∃ v,e = .returned v∧strK.own 9 w' w.heap.size TT v l)∧Below w.heap.size w w':=by
 have HM:=Lib.hid HL
 obtain ⟨A',c',he,h1,h2,h3,hr⟩:=HL
 obtain ⟨rfl,rfl⟩:A = A'∧c = c':=by simpa using he
 cases A with
 | none =>
  have hc:=h3 rfl
  have hl0:l = []:=List.eq_nil_of_length_eq_zero (by omega)
  subst hl0 hc
  have HO:Hid (strK.own 9 w w.heap.size TT (.slice none 0 0) []):=Lib.hid (Kd.own_nil _ _ _ _ _)
  clear he h1 h2 h3 hr HM hb
  simp only [List.length_nil]
  have hq:∀ w,Sem.run Tryz.prog (binOp BinOp.eql 51 (Value.slice none 0 0) (Value.slice none 0 0)) w = .ok (.bool true) w:=fun w=>run_eql_nil_slice w 51 9 none 0 0 0 0 Tryz.underlying51
  go_enter Tryz.func99,Tryz.ntmps99
  go_wp2
  go_ret
  exact ⟨⟨_,rfl,HO.out⟩,Below.refl _ _⟩
 | some ad =>
  have b0:Below w.heap.size w (w.alloc (.cells #[] 9)):=bel_alloc (Below.refl _ _) _
  have HO0:Hid (strK.own 9 (w.alloc (.cells #[] 9)) w.heap.size TT (.slice (some ⟨w.heap.size,0,none⟩) 0 0) []):=
   Lib.hid (Kd.own_block (cells:=[]) (xs:=[]) (Nat.le_refl _) (Kd.heap_new _ _) rfl (by simp) (fun i x h=>by simp at h))
  have HR0:=Lib.hid (Kd.M_below HM.out b0)
  clear he h1 h2 h3 hr
  have hq:∀ w,Sem.run Tryz.prog (binOp BinOp.eql 51 (Value.slice (some ad) l.length c) (Value.slice none 0 0)) w = .ok (.bool false) w:=fun w=>Lib.run_eql_slice_nil w 51 9 (some ad) l.length c 0 0 Tryz.underlying51
  go_enter Tryz.func99,Tryz.ntmps99
  go_wp2_with (at_builtin;refine Kd.own_app strK w.heap.size rfl (.tmp 5) (.tmp 6) 51 9 zero_str 16 rfl Tryz.underlying51 info_str rfl (by decide) _ [] l (some ad) c TT rfl rfl HO0.out (.inr ⟨HR0.out,any_str⟩) b0 (by simp) (by simp;omega) ?_;intro v1 w1 ho1 hb1 hg1 hv1;clear hg1 hv1;rw [List.nil_append] at ho1;have HO1:=Lib.hid ho1;have HB1:=Lib.hid hb1;clear ho1 hb1 b0)
  go_wp2
  go_ret
  exact ⟨⟨_,rfl,HO1.out⟩,HB1.out⟩
end Go.Proofs.YtnplommdgfgboaaGreatDoor.Clones
namespace Go.Proofs.YtnplommdgfgboaaGreatDoor.WaveW
open Go.RowKit Go.Lib B Rd StoreW PackW Clones
theorem bits_thousand:∀ n:Fin 1001,Lib.bitLen n.val ≤ 10:=by decide +kernel
set_option maxHeartbeats 3200000 in
set_option maxRecDepth 100000 in
theorem wave_calls (l:List Nat) (hl:l.length ≤ 1000) (hn:∀ n ∈ l,n ≤ 1000) (A:Option Addr) (c:Nat) (w:World) (HL:intK.sl.M w (fun k=>k < w.heap.size) (natZ l) [.slice A l.length c]) :
  Calls Tryz.prog 139 #[.slice A l.length c,.int .i64 10] w fun e w'=>(∃ g,e = .returned (.tuple #[.pointer (some ⟨g,0,none⟩),.int .i64 0])∧WaveAt w' (fun k=>w.heap.size ≤ k) g l)∧Below w.heap.size w w':=by
 have HP:=Lib.hid (pack_calls l 10 (by omega) hl (fun n h=>⟨by have:=hn n h;omega,bits_thousand ⟨n,by have:=hn n h;omega⟩⟩) A c w HL)
 have HC:=Lib.hid (fun w2 (hb:Below w.heap.size w w2)=>clone_int_calls (natZ l) A c w2 (by rw [natZ_len];exact intK.sl.mono (fun _ _ _=>trivial) (Kd.M_below HL hb)) (by rw [natZ_len];omega))
 rw [natZ_len] at HC
 have HZ:=Lib.hid (natZ_len l)
 clear HL hn
 go_enter Tryz.func139,Tryz.ntmps139
 go_wp2_with fail
 refine HP.out.mono ?_
 rintro e w2 ⟨⟨v,rfl,_⟩,hb2⟩
 have HC2:=Lib.hid (HC.out w2 hb2)
 have HB2:=Lib.hid hb2
 clear HC hb2 HP
 go_wp2_with fail
 refine HC2.out.mono ?_
 rintro e w3 ⟨⟨v3,rfl,ho3⟩,hb3⟩
 obtain ⟨A3,c3,rfl,hc3,hA3⟩:=Kd.own_slice ho3
 have HB3:=Lib.hid (bel_step HB2.out hb3)
 have HB4:Hid (Below w.heap.size w (w3.alloc (.cells #[.slice A3 (natZ l).length c3] 231))):=Lib.hid (bel_alloc HB3.out _)
 have HW:Hid (WaveAt (w3.alloc (.cells #[.slice A3 (natZ l).length c3] 231)) (fun k=>w.heap.size ≤ k) w3.heap.size l):=Lib.hid (by
  refine ⟨HB3.out.size,A3,c3,?_,?_⟩
  ·
   rw [World.cell?,Kd.heap_new,← HZ.out]
   try rfl
  ·
   have h2:=own_from any_int (Kd.own_lower HB2.out.size (Kd.own_alloc ho3 (.cells #[.slice A3 (natZ l).length c3] 231)))
   rw [← HZ.out]
   exact h2)
 clear ho3 hb3 HC2
 go_wp2
 go_ret2
 exact ⟨⟨w3.heap.size,rfl,HW.out⟩,HB4.out⟩
end Go.Proofs.YtnplommdgfgboaaGreatDoor.WaveW
namespace Go.Proofs.YtnplommdgfgboaaGreatDoor.IdsCmp
open Go.RowKit Go.Lib B Rd OrdG StoreW SortP
def I3 (w:World) (g o:Nat) (x:Ids):Prop:=∀ k,k < 3 → w.cell? ⟨g,o + k,none⟩ = some (.int .i64 (at3 x k:Nat))
theorem I3.of {w:World} {g o:Nat} {x:Ids} (h:∀ j u,(idsL x)[j]? = some u → w.cell? ⟨g,o + j,none⟩ = some u):I3 w g o x:=fun k hk=>by
 match k,hk with
 | 0,_=>exact h 0 _ rfl
 | 1,_=>exact h 1 _ rfl
 | 2,_=>exact h 2 _ rfl
theorem I3.lt {w:World} {g o:Nat} {x:Ids} (h:I3 w g o x):g < w.heap.size:=World.block_lt_of_cell? w ⟨g,o + 0,none⟩ (h 0 (by decide))
theorem I3.moved {w w':World} {g o:Nat} {x:Ids} (h:I3 w g o x) (hm:w'.heap[g]? = w.heap[g]?):I3 w' g o x:=fun k hk=>(World.cell?_of_block (a:=⟨g,o + k,none⟩) hm).trans (h k hk)
theorem I3.below {w w':World} {g o:Nat} {x:Ids} (h:I3 w g o x) (hb:Below w.heap.size w w'):I3 w' g o x:=h.moved (hb.block g h.lt)
theorem I3.new (w:World) (x:Ids):I3 (w.alloc (.cells (idsL x).toArray 40)) w.heap.size 0 x:=I3.of fun j u hu=>by
 unfold World.cell?
 dsimp only
 rw [Kd.heap_new,Nat.zero_add]
 simpa using hu
def cI (x y:Ids) (k:Nat):Int:=compareInt (at3 x k:Nat) (at3 y k:Nat)
def cmpI (x y:Ids):Int:=orI (cI x y 0) (cI x y 1) (cI x y 2)
theorem cI_zero (x y:Ids) (k:Nat):cI x y k = 0 ↔ at3 x k = at3 y k:=by
 unfold cI compareInt
 split
 ·
  omega
 ·
  split <;> omega
theorem cI_neg (x y:Ids) (k:Nat):cI x y k < 0 ↔ at3 x k < at3 y k:=by
 unfold cI compareInt
 split
 ·
  omega
 ·
  split <;> omega
theorem cmpI_lt (x y:Ids):cmpI x y < 0 ↔ ltI x y:=by
 have a0:=cI_zero x y 0
 have a1:=cI_zero x y 1
 have b0:=cI_neg x y 0
 have b1:=cI_neg x y 1
 have b2:=cI_neg x y 2
 unfold cmpI orI ltI
 simp only [at3] at a0 a1 b0 b1 b2
 split
 ·
  omega
 ·
  split <;> omega
instance (x y:Ids):Decidable (ltI x y):=by unfold ltI;infer_instance
theorem eq0 {x y:Ids} {k:Nat} (h:at3 x k = at3 y k):¬ cI x y k ≠ 0:=fun hn=>hn ((cI_zero x y k).2 h)
theorem swo_ids:Go.Sort.SWO fun x y:{ t:Ids // True }=>decide (cmpI x.1 y.1 < 0):=by
 have key:∀ x y:Ids,decide (cmpI x y < 0) = decide (ltI x y):=fun x y=>by simp only [cmpI_lt]
 refine ⟨fun x=>?_,fun x y z h1 h2=>?_,fun x y z h1 h2=>?_⟩
 ·
  rw [key,decide_eq_false_iff_not]
  exact ord_ids.irrefl _
 ·
  rw [key,decide_eq_true_iff] at *
  exact ord_ids.trans _ _ _ h1 h2
 ·
  rw [key,decide_eq_false_iff_not] at *
  intro h3
  rcases ord_ids.tri x.1 y.1 trivial trivial with h | h | h
  ·
   exact h1 h
  ·
   rw [h] at h3;exact h2 h3
  ·
   exact h2 (ord_ids.trans _ _ _ h h3)
theorem cmp_at {x y:Ids} {k:Nat} (hk:k < 3) (he:∀ j,j < k → at3 x j = at3 y j) (hne:cI x y k ≠ 0):cmpI x y = cI x y k:=by
 unfold cmpI orI
 match k,hk with
 | 0,_=>rw [if_pos hne]
 | 1,_ =>
  rw [if_neg (eq0 (he 0 (by decide))),if_pos hne]
 | 2,_ =>
  rw [if_neg (eq0 (he 0 (by decide))),if_neg (eq0 (he 1 (by decide)))]
theorem cmp_all {x y:Ids} (he:∀ j,j < 3 → at3 x j = at3 y j):cmpI x y = 0:=by
 unfold cmpI orI
 rw [if_neg (eq0 (he 0 (by decide))),if_neg (eq0 (he 1 (by decide)))]
 exact (cI_zero x y 2).2 (he 2 (by decide))
set_option maxHeartbeats 3200000 in
set_option maxRecDepth 100000 in
theorem compare_calls (x y:Ids) (g o h p c d:Nat) (w:World) (hx:I3 w g o x) (hy:I3 w h p y) :
  Calls Tryz.prog 93 #[.slice (some ⟨g,o,none⟩) 3 c,.slice (some ⟨h,p,none⟩) 3 d] w fun e w'=>e = .returned (.int .i64 (cmpI x y))∧w = w':=by
 have HX:=Lib.hid hx
 have HY:=Lib.hid hy
 clear hx hy
 go_enter Tryz.func93,Tryz.ntmps93
 go_wp2
 go_loopw [11] (fun vk wr=>∃ k:Nat,vk = .int .i64 k∧k ≤ 3∧Hid (∀ j,j < k → at3 x j = at3 y j)∧w = wr) (fun vk _=>3 - (intOf vk).toNat)
 case atStart=>exact ⟨0,rfl,by omega,Lib.hid (fun j h=>by omega),rfl⟩
 case round =>
  obtain ⟨k,rfl,hk,HE,rfl⟩:=hrel
  by_cases hlt:k < 3
  ·
   have hd:decide ((k:Int) < 3) = true:=decide_eq_true (by omega)
   have hd2:decide ((3:Int) ≤ (k:Int)) = false:=decide_eq_false (by omega)
   have ik:(k:Int) < 3:=by omega
   have hcx:=HX.out k hlt
   have hcy:=HY.out k hlt
   have HC:=Lib.hid (fun w=>Tryz.cmp_Compare_int (at3 x k:Nat) (at3 y k:Nat) w)
   obtain ⟨v,hv⟩:∃ v,v = cI x y k:=⟨_,rfl⟩
   have hvc:compareInt (at3 x k:Nat) (at3 y k:Nat) = v:=hv.symm
   rw [hvc] at HC
   have HZ:Hid (v = 0 → ∀ j,j < k + 1 → at3 x j = at3 y j):=Lib.hid (fun h0 j hj=>by
    by_cases e:j = k
    ·
     subst e;exact (cI_zero x y j).1 (by rw [← hv];exact h0)
    ·
     exact HE.out j (by omega))
   have HN:Hid (v ≠ 0 → cmpI x y = v):=Lib.hid (fun h0=>by rw [hv];exact cmp_at hlt HE.out (by rw [← hv];exact h0))
   generalize at3 x k = xk at *
   generalize at3 y k = yk at *
   clear hv hvc HE
   by_cases hv0:v = 0
   ·
    have hb:(v != 0) = false:=by simp [hv0]
    have HZ2:=Lib.hid (HZ.out hv0)
    clear HZ HN
    subst hv0
    go_wp2_with fail
    refine (HC.out _).mono ?_
    rintro e w2 ⟨rfl,rfl⟩
    go_wp2
    go_roundw
    case rel=>exact ⟨k + 1,by go_num,by omega,HZ2,trivial⟩
    case measure=>simp [intOf];omega
   ·
    have hb:(v != 0) = true:=by simp [hv0]
    have HV:=Lib.hid (HN.out hv0)
    clear HZ HN
    go_wp2_with fail
    refine (HC.out _).mono ?_
    rintro e w2 ⟨rfl,rfl⟩
    go_wp2
    go_ret
    exact ⟨by rw [HV.out];rfl,rfl⟩
  ·
   have hd:decide ((k:Int) < 3) = false:=decide_eq_false (by omega)
   obtain rfl:k = 3:=by omega
   have HV:Hid (cmpI x y = 0):=Lib.hid (cmp_all HE.out)
   go_wp2
   go_ret
   exact ⟨by rw [HV.out];rfl,rfl⟩
set_option maxHeartbeats 3200000 in
set_option maxRecDepth 100000 in
theorem less_calls (x y:Ids) (w:World):Calls Tryz.prog 92 #[.agg (idsL x).toArray,.agg (idsL y).toArray] w fun e w'=>e = .returned (.int .i64 (cmpI x y))∧Below w.heap.size w w':=by
 have hb:Below w.heap.size w ((w.alloc (.cells (idsL x).toArray 40)).alloc (.cells (idsL y).toArray 40)):=bel_alloc (bel_alloc (Below.refl _ _) _) _
 have hx:I3 ((w.alloc (.cells (idsL x).toArray 40)).alloc (.cells (idsL y).toArray 40)) w.heap.size 0 x:=(I3.new w x).below (bel_alloc (Below.refl _ _) _)
 have hy:I3 ((w.alloc (.cells (idsL x).toArray 40)).alloc (.cells (idsL y).toArray 40)) (w.heap.size + 1) 0 y:=by
  have:=I3.new (w.alloc (.cells (idsL x).toArray 40)) y
  rwa [show (w.alloc (.cells (idsL x).toArray 40)).heap.size = w.heap.size + 1 by simp] at this
 have HB:=Lib.hid hb
 obtain ⟨w0,hw0⟩:∃ w0,w0 = ((w.alloc (.cells (idsL x).toArray 40)).alloc (.cells (idsL y).toArray 40)):=⟨_,rfl⟩
 rw [← hw0] at HB
 have HC:=Lib.hid (fun (p:QT.Bel w0) c d=>(compare_calls x y w.heap.size 0 (w.heap.size + 1) 0 c d p.w (hx.below (by rw [← hw0];exact p.bel)) (hy.below (by rw [← hw0];exact p.bel))).mono (fun e w' (h:e = .returned (.int .i64 (cmpI x y))∧p.w = w')=>(⟨h.1,by rw [← h.2];exact Below.refl _ _⟩:e = .returned (.int .i64 (cmpI x y))∧Below p.w.heap.size p.w w')))
 have HW:Hid ((w.alloc (.cells (idsL x).toArray 40)).alloc (.cells (idsL y).toArray 40) = w0):=Lib.hid hw0.symm
 generalize cmpI x y = v at *
 clear hb hx hy hw0
 unfold idsL at *
 go_enter Tryz.func92,Tryz.ntmps92
 go_upto_region 1 with fail
 rw [HW.out]
 refine QT.region_all (by kernel_rfl) (by kernel_rfl) ?_
 iterate 2 (go_big_quiet_step (fail))
 go_big_quiet_step (exact QT.Bel.call _ (HC.out _ _ _))
 iterate 1 (go_big_quiet_step (fail))
 refine wpQuiet_nil ?_
 intro w2 hw'
 obtain ⟨⟨_,hb2⟩,rfl⟩:=hw'
 have HB2:=Lib.hid (bel_step HB.out hb2)
 go_wp2
 go_ret
 exact ⟨rfl,HB2.out⟩
end Go.Proofs.YtnplommdgfgboaaGreatDoor.IdsCmp
namespace Go.Proofs.YtnplommdgfgboaaGreatDoor.RingW
open Go.RowKit Go.Lib B Rd OrdG StoreW SortP IdsCmp Clones
def Good (x:Ids):Prop:=(1 ≤ x.a∧x.a ≤ 1000)∧(1 ≤ x.b∧x.b ≤ 1000)∧(1 ≤ x.c∧x.c ≤ 1000)
theorem Good.at {x:Ids} (h:Good x) (k:Nat):1 ≤ at3 x k∧at3 x k ≤ 1000:=by
 obtain ⟨h1,h2,h3⟩:=h
 match k with
 | 0=>exact h1
 | 1=>exact h2
 | k + 2=>exact h3
def badV:Value:=.func (.func 137) #[] #[]
theorem bad_calls (n:Nat) (h1:1 ≤ n) (h2:n ≤ 1000) (w:World):Calls Tryz.prog 137 #[.int .i64 n] w fun e w'=>e = .returned (.bool false)∧w = w':=by
 have a1:¬ (n:Int) < 1:=by omega
 have a2:¬ (1000:Int) < (n:Int):=by omega
 have d1:decide ((n:Int) < 1) = false:=decide_eq_false a1
 have d2:decide ((1000:Int) < (n:Int)) = false:=decide_eq_false a2
 go_enter Tryz.func137,Tryz.ntmps137
 go_wp2
 go_ret
 exact ⟨rfl,rfl⟩
set_option maxHeartbeats 3200000 in
set_option maxRecDepth 100000 in
theorem index_calls (x:Ids) (hg:Good x) (g o c:Nat) (w:World) (hx:I3 w g o x) :
  Calls Tryz.prog 184 #[.slice (some ⟨g,o,none⟩) 3 c,badV] w fun e w'=>e = .returned (.int .i64 (-1))∧w = w':=by
 have HX:=Lib.hid hx
 have HG:=Lib.hid hg
 unfold badV
 clear hx hg
 go_enter Tryz.func184,Tryz.ntmps184
 go_wp2
 go_loopw [8] (fun vk wr=>∃ k:Nat,vk = .int .i64 k∧k ≤ 3∧w = wr) (fun vk _=>3 - (intOf vk).toNat)
 case atStart=>exact ⟨0,rfl,by omega,rfl⟩
 case round =>
  obtain ⟨k,rfl,hk,rfl⟩:=hrel
  by_cases hlt:k < 3
  ·
   have hd:decide ((k:Int) < 3) = true:=decide_eq_true (by omega)
   have ik:(k:Int) < 3:=by omega
   have hcx:=HX.out k hlt
   obtain ⟨g1,g2⟩:=HG.out.at k
   have HC:=Lib.hid (fun w=>bad_calls (at3 x k) g1 g2 w)
   generalize at3 x k = xk at *
   go_wp2_with fail
   refine (HC.out _).mono ?_
   rintro e w2 ⟨rfl,rfl⟩
   go_wp2
   go_roundw
   case rel=>exact ⟨k + 1,by go_num,by omega,trivial⟩
   case measure=>simp [intOf];omega
  ·
   have hd:decide ((k:Int) < 3) = false:=decide_eq_false (by omega)
   obtain rfl:k = 3:=by omega
   go_wp2
   go_ret
   exact ⟨rfl,rfl⟩
theorem contains_calls (x:Ids) (hg:Good x) (g o c:Nat) (w:World) (hx:I3 w g o x) :
  Calls Tryz.prog 138 #[.slice (some ⟨g,o,none⟩) 3 c,badV] w fun e w'=>e = .returned (.bool false)∧w = w':=by
 have HC:=Lib.hid (fun w hx=>index_calls x hg g o c w hx)
 unfold badV at *
 have HX:=Lib.hid hx
 go_enter Tryz.func138,Tryz.ntmps138
 go_wp2_with fail
 refine (HC.out _ HX.out).mono ?_
 rintro e w2 ⟨rfl,rfl⟩
 go_wp2
 go_ret
 exact ⟨rfl,rfl⟩
end Go.Proofs.YtnplommdgfgboaaGreatDoor.RingW
namespace Go.Proofs.YtnplommdgfgboaaGreatDoor.RingW
open Go.RowKit Go.Lib B Rd OrdG StoreW SortP IdsCmp Clones
theorem ids_cells {w:World} {ok:Nat → Prop} {l:List Ids} {A:Option Addr} {c:Nat} (h:idsK.sl.M w ok l [.slice A l.length c]) (hp:0 < l.length) :
  ∃ b off,A = some ⟨b,off,none⟩∧ok b∧b < w.heap.size∧∀ i (hi:i < l.length),I3 w b (off + i * 3) l[i]:=by
 obtain ⟨A',c',he,hlc,_,hA,hrow⟩:=h
 obtain ⟨rfl,rfl⟩:A = A'∧c = c':=by simpa using he
 obtain ⟨b,off,hAe,hok,hb,hcells⟩:=Kd.row_addr hrow hp
 refine ⟨b,off,hAe,hok,hb,fun i hi=>?_⟩
 obtain ⟨cs,⟨hcs,_⟩,hcell⟩:=hcells i hi
 subst hcs
 exact I3.of hcell
theorem I3.three {w:World} {g o:Nat} {x:Ids} (h:I3 w g o x):w.cell? ⟨g,o,none⟩ = some (.int .i64 (x.a:Nat))∧w.cell? ⟨g,o + 1,none⟩ = some (.int .i64 (x.b:Nat))∧w.cell? ⟨g,o + 2,none⟩ = some (.int .i64 (x.c:Nat)):=⟨h 0 (by decide),h 1 (by decide),h 2 (by decide)⟩
structure RS (w wr:World) (B g:Nat) (v:Value) (I:List Ids) (c:Nat):Prop where
 ge:w.heap.size ≤ g
 lt:g < B
 hB:B ≤ wr.heap.size
 bel:Below w.heap.size w wr
 cols:∀ j,j < c → ∃ h,wr.cell? ⟨g,j,none⟩ = some (.pointer (some ⟨h,0,none⟩))∧WaveAt wr (fun k=>g < k∧k < B) h (I.map fun x=>at3 x j)
 rest:∀ j,j < 3 → ∃ u,wr.cell? ⟨g,j,none⟩ = some u
 row:wr.cell? ⟨g,3,none⟩ = some v
 ids:idsK.sl.M wr (fun k=>w.heap.size ≤ k∧k ≠ g∧k < B) I [v]
 free:∀ j,wr.frozen? ⟨g,j,none⟩ = false
theorem RS.below {w wr w1:World} {B g c:Nat} {v:Value} {I:List Ids} (h:RS w wr B g v I c) (hb:Below B wr w1):RS w w1 B g v I c:=by
 have hc:∀ {o u},wr.cell? ⟨g,o,none⟩ = some u → w1.cell? ⟨g,o,none⟩ = some u:=fun {o u} hu=>(hb.cell (p:=⟨g,o,none⟩) h.lt).trans hu
 have hge:=h.ge
 have hlt:=h.lt
 exact ⟨h.ge,h.lt,Nat.le_trans h.hB hb.size,h.bel.trans (hb.mono (by omega)),fun j hj=>by obtain ⟨p,hp,hw⟩:=h.cols j hj;exact ⟨p,hc hp,hw.move (fun k hk _=>hb.block k hk.2)⟩,fun j hj=>by obtain ⟨u,hu⟩:=h.rest j hj;exact ⟨u,hc hu⟩,hc h.row,idsK.sl.move (fun k hk _=>hb.block k hk.2.2) h.ids,fun j=>(hb.frozen (p:=⟨g,j,none⟩) h.lt).trans (h.free j)⟩
theorem RS.up {w wr:World} {B B' g c:Nat} {v:Value} {I:List Ids} (h:RS w wr B g v I c) (h1:B ≤ B') (h2:B' ≤ wr.heap.size):RS w wr B' g v I c:=
 ⟨h.ge,Nat.lt_of_lt_of_le h.lt h1,h2,h.bel,fun j hj=>by obtain ⟨p,hp,hw⟩:=h.cols j hj;exact ⟨p,hp,hw.mono (fun k hk _=>⟨hk.1,Nat.lt_of_lt_of_le hk.2 h1⟩)⟩,h.rest,h.row,idsK.sl.mono (fun k hk _=>⟨hk.1,hk.2.1,Nat.lt_of_lt_of_le hk.2.2 h1⟩) h.ids,h.free⟩
theorem RS.put {w wr:World} {B g c p:Nat} {v:Value} {I:List Ids} (h:RS w wr B g v I c) (hc:c < 3) (hw:WaveAt wr (fun k=>g < k∧k < B) p (I.map fun x=>at3 x c)):RS w (wr.setCell ⟨g,c,none⟩ (.pointer (some ⟨p,0,none⟩))) B g v I (c + 1):=by
 have hm:∀ k,k ≠ g → k < wr.heap.size → (wr.setCell ⟨g,c,none⟩ (.pointer (some ⟨p,0,none⟩))).heap[k]? = wr.heap[k]?:=fun k hk _=>Below.heap_setCell _ _ _ _ (fun e=>hk e)
 obtain ⟨u0,hu0⟩:=h.rest c hc
 have hsz:=h.hB
 refine ⟨h.ge,h.lt,by simpa using hsz,bel_set h.bel h.ge _,fun j hj=>?_,fun j hj=>?_,?_,idsK.sl.move (fun k hk hlt=>hm k hk.2.1 hlt) h.ids,fun j=>by rw [World.frozen?_setCell];exact h.free j⟩
 ·
  by_cases e:j = c
  ·
   subst e
   exact ⟨p,World.cell?_setCell_same _ _ _ hu0,hw.move (fun k hk hlt=>hm k (by have:=hk.1;omega) hlt)⟩
  ·
   obtain ⟨q,hq,hqw⟩:=h.cols j (by omega)
   exact ⟨q,(World.cell?_setCell_other _ _ _ _ (by simp;try omega)).trans hq,hqw.move (fun k hk hlt=>hm k (by have:=hk.1;omega) hlt)⟩
 ·
  by_cases e:j = c
  ·
   subst e
   exact ⟨_,World.cell?_setCell_same _ _ _ hu0⟩
  ·
   obtain ⟨u,hu⟩:=h.rest j hj
   exact ⟨u,(World.cell?_setCell_other _ _ _ _ (by simp;try omega)).trans hu⟩
 ·
  exact (World.cell?_setCell_other _ _ _ _ (by simp;try omega)).trans h.row
theorem RS.done {w wr:World} {B g:Nat} {A:Option Addr} {c:Nat} {I:List Ids} (h:RS w wr B g (.slice A I.length c) I 3):RingAt wr (fun k=>w.heap.size ≤ k) g I:=
 ⟨h.ge,fun j hj=>by obtain ⟨p,hp,hpw⟩:=h.cols j hj;exact ⟨p,hp,hpw.mono (fun k hk _=>by have:=h.ge;have:=hk.1;omega)⟩,A,c,h.row,idsK.sl.mono (fun k hk _=>hk.1) h.ids⟩
theorem RS.new {w w3:World} {A:Option Addr} {c:Nat} {I:List Ids} (hb:Below w.heap.size w w3) (hI:idsK.sl.M w3 (fun k=>w.heap.size ≤ k) I [.slice A I.length c]) :
  RS w (w3.alloc (.cells #[.pointer none,.pointer none,.pointer none,.slice A I.length c] 103)) (w3.heap.size + 1) w3.heap.size (.slice A I.length c) I 0:=by
 have hs:(w3.alloc (.cells #[.pointer none,.pointer none,.pointer none,.slice A I.length c] 103)).heap.size = w3.heap.size + 1:=by simp
 have hc:∀ {o:Nat} {u:Value},#[Value.pointer none,.pointer none,.pointer none,.slice A I.length c][o]? = some u → (w3.alloc (.cells #[.pointer none,.pointer none,.pointer none,.slice A I.length c] 103)).cell? ⟨w3.heap.size,o,none⟩ = some u:=fun {o u} hu=>by
  rw [World.cell?,Kd.heap_new]
  exact hu
 have hb1:Below w3.heap.size w3 (w3.alloc (.cells #[.pointer none,.pointer none,.pointer none,.slice A I.length c] 103)):=bel_alloc (Below.refl _ _) _
 refine ⟨hb.size,by omega,by omega,bel_alloc hb _,fun j hj=>by omega,fun j hj=>?_,hc rfl,?_,fun j=>?_⟩
 ·
  match j,hj with
  | 0,_=>exact ⟨_,hc rfl⟩
  | 1,_=>exact ⟨_,hc rfl⟩
  | 2,_=>exact ⟨_,hc rfl⟩
 ·
  have h1:idsK.sl.M w3 (fun k=>w.heap.size ≤ k∧k < w3.heap.size) I [.slice A I.length c]:=idsK.sl.mono (fun k hk hlt=>⟨hk,hlt⟩) hI
  have h2:=Kd.M_below h1 hb1
  exact idsK.sl.mono (fun k hk _=>⟨hk.1,by have:=hk.2;omega,by have:=hk.2;omega⟩) h2
 ·
  unfold World.frozen?
  dsimp only
  rw [Kd.heap_new]
  try rfl
def colN (I:List Ids) (c i:Nat):List Int:=natZ ((I.take i).map fun x=>at3 x c)
theorem colN_snoc (I:List Ids) (c i:Nat) (h:i < I.length):colN I c i ++ [((at3 I[i] c:Nat):Int)] = colN I c (i + 1):=by
 unfold colN natZ
 rw [List.take_succ_eq_append_getElem h,List.map_append,List.map_append]
 try rfl
theorem colN_len (I:List Ids) (c i:Nat) (h:i ≤ I.length):(colN I c i).length = i:=by
 unfold colN natZ
 simp
 omega
set_option maxHeartbeats 12800000 in
set_option maxRecDepth 100000 in
theorem ring_calls (I:List Ids) (hl:I.length ≤ 100) (hg:∀ x ∈ I,Good x) (hr:I.Pairwise ltI) (A:Option Addr) (c:Nat) (w:World) (HL:idsK.sl.M w (fun k=>k < w.heap.size) I [.slice A I.length c]) :
  Calls Tryz.prog 94 #[.slice A I.length c] w fun e w'=>(∃ g,e = .returned (.tuple #[.pointer (some ⟨g,0,none⟩),.int .i64 0])∧RingAt w' (fun k=>w.heap.size ≤ k) g I)∧Below w.heap.size w w':=by
 have HRow:=Lib.hid (fun hp=>ids_cells HL hp)
 have HM:=Lib.hid HL
 have HG:=Lib.hid hg
 have HR:=Lib.hid hr
 have hbig:¬ (100:Int) < (I.length:Int):=by omega
 have dbig:decide ((100:Int) < (I.length:Int)) = false:=decide_eq_false hbig
 clear HL hg hr
 go_enter Tryz.func94,Tryz.ntmps94
 go_wp2
 go_loopw [17] (fun vi wr=>∃ i:Nat,vi = .int .i64 i∧i ≤ I.length∧Hid (Below w.heap.size w wr)) (fun vi _=>I.length - (intOf vi).toNat)
 case atStart=>exact ⟨0,rfl,by omega,Lib.hid (Below.refl _ _)⟩
 case round =>
  obtain ⟨i,rfl,hi,HB⟩:=hrel
  by_cases hlt:i < I.length
  ·
   have hd:decide (i < I.length) = true:=decide_eq_true hlt
   have ik:(i:Int) < (I.length:Int):=by omega
   obtain ⟨b,off,rfl,hbs,_,hcells⟩:=HRow.out (by omega)
   obtain ⟨x,hx⟩:∃ x,x = I[i]:=⟨_,rfl⟩
   have hcx:=(hcells i hlt).below HB.out
   rw [← hx] at hcx
   obtain ⟨x0,x1,x2⟩:=I3.three hcx
   have hgx:Good x:=by rw [hx];exact HG.out _ (List.getElem_mem hlt)
   have hnx:=I3.new wr x
   have hbx:Below wr.heap.size wr (wr.alloc (.cells (idsL x).toArray 40)):=bel_alloc (Below.refl _ _) _
   obtain ⟨w0,hw0⟩:∃ w0,w0 = wr.alloc (.cells (idsL x).toArray 40):=⟨_,rfl⟩
   rw [← hw0] at hnx hbx
   have HCon:=Lib.hid (fun (p:QT.Bel w0) c=>(contains_calls x hgx wr.heap.size 0 c p.w (hnx.below p.bel)).mono (fun e w' (h:e = .returned (.bool false)∧p.w = w')=>(⟨h.1,by rw [← h.2];exact Below.refl _ _⟩:e = .returned (.bool false)∧Below p.w.heap.size p.w w')))
   have HB1:=Lib.hid (bel_step HB.out hbx)
   have HW:Hid (wr.alloc (.cells (idsL x).toArray 40) = w0):=Lib.hid hw0.symm
   unfold badV at HCon
   by_cases hi0:i = 0
   ·
    subst hi0
    simp only [Nat.zero_mul,Nat.add_zero] at x0 x1 x2
    clear hcells hcx hx hnx hbx hw0 HB
    unfold idsL at HW
    go_upto_region 7 with fail
    rw [HW.out]
    refine QT.region_all (by kernel_rfl) (by kernel_rfl) ?_
    iterate 2 (go_big_quiet_step (fail))
    go_big_quiet_step (exact QT.Bel.call _ (HCon.out _ _))
    iterate 14 (go_big_quiet_step (fail))
    refine wpQuiet_nil ?_
    intro w2 hw'
    obtain ⟨⟨_,hb2⟩,rfl⟩:=hw'
    have HB2:=Lib.hid (bel_step HB1.out hb2)
    go_wp2
    go_roundw
    case rel=>exact ⟨1,by go_num,by omega,HB2⟩
    case measure=>simp [intOf];omega
   ·
    have hpos:0 < i:=by omega
    have d0:decide (0 < i) = true:=decide_eq_true hpos
    obtain ⟨y,hy⟩:∃ y,y = I[i - 1]:=⟨_,rfl⟩
    obtain ⟨ip,hip⟩:∃ ip,ip = i - 1:=⟨_,rfl⟩
    have hwi:IntKind.i64.wrap ((i:Int) - 1) = (ip:Int):=by rw [IntKind.wrap_i64];omega
    have jip:(ip:Int) < (I.length:Int):=by omega
    have hcy0:=(hcells ip (by omega)).below HB.out
    rw [show I[ip]'(by omega) = y by rw [hy];congr 1] at hcy0
    have hcy:=hcy0.below hbx
    have HCmp:=Lib.hid (fun (p:QT.Bel w0) c d=>(compare_calls y x b (off + ip * 3) wr.heap.size 0 c d p.w (hcy.below p.bel) (hnx.below p.bel)).mono (fun e w' (h:e = .returned (.int .i64 (cmpI y x))∧p.w = w')=>(⟨h.1,by rw [← h.2];exact Below.refl _ _⟩:e = .returned (.int .i64 (cmpI y x))∧Below p.w.heap.size p.w w')))
    have hneg:cmpI y x < 0:=by
     rw [cmpI_lt,hy,hx]
     exact List.pairwise_iff_getElem.1 HR.out (i - 1) i (by omega) hlt (by omega)
    generalize cmpI y x = v at *
    have hge:decide (0 ≤ v) = false:=decide_eq_false (by omega)
    clear hcells hx hnx hbx hw0 HB hy hip hcy hcy0 hcx
    unfold idsL at HW
    go_upto_region 7 with fail
    rw [HW.out]
    refine QT.region_all (by kernel_rfl) (by kernel_rfl) ?_
    iterate 2 (go_big_quiet_step (fail))
    go_big_quiet_step (exact QT.Bel.call _ (HCon.out _ _))
    iterate 10 (go_big_quiet_step (fail))
    go_big_quiet_step (exact QT.Bel.call _ (HCmp.out _ _ _))
    iterate 3 (go_big_quiet_step (fail))
    refine wpQuiet_nil ?_
    intro w2 hw'
    obtain ⟨⟨_,hb2⟩,rfl⟩:=hw'
    have HB2:=Lib.hid (bel_step HB1.out hb2)
    go_wp2
    go_roundw
    case rel=>exact ⟨i + 1,by go_num,by omega,HB2⟩
    case measure=>simp [intOf];omega
  ·
   have hd:decide (i < I.length) = false:=decide_eq_false hlt
   have HBx:=Lib.hid HB.out
   clear HB
   have HC:=Lib.hid (clone_ids_calls I A c wr (idsK.sl.mono (fun _ _ _=>trivial) (Kd.M_below HM.out HBx.out)) (by omega))
   go_wp2_with fail
   refine HC.out.mono ?_
   rintro e w3 ⟨⟨v3,rfl,ho3⟩,hb3⟩
   obtain ⟨A3,c3,rfl,_,_⟩:=Kd.own_slice ho3
   have HRS0:=Lib.hid (RS.new (bel_step HBx.out hb3) (own_from any_ids (Kd.own_lower HBx.out.size ho3)))
   clear ho3 hb3 HC
   go_wp2
   go_loopw [44] (fun vc wr=>∃ (j B:Nat),vc = .int .i64 j∧j ≤ 3∧Hid (RS w wr B w3.heap.size (.slice A3 I.length c3) I j)) (fun vc _=>3 - (intOf vc).toNat)
   case atStart=>exact ⟨0,_,rfl,by omega,HRS0⟩
   case round =>
    obtain ⟨j,B,rfl,hj,HS⟩:=hrel
    clear HRS0
    by_cases hj3:j < 3
    ·
     have hdj:decide ((j:Int) < 3) = true:=decide_eq_true (by omega)
     have jj:(j:Int) < 3:=by omega
     have HS0:=Lib.hid (HS.out.up HS.out.hB (Nat.le_refl _))
     have hsz:=Nat.le_refl wr.heap.size
     obtain ⟨B0,hB0⟩:∃ B0,B0 = wr.heap.size:=⟨_,rfl⟩
     rw [← hB0] at HS0
     have HZ0:Hid (intK.own 3 wr B0 TT (.slice none 0 0) (colN I j 0)):=Lib.hid (Kd.own_nil _ _ _ _ _)
     clear HS hsz hB0
     go_wp2
     go_loopw [9,49] (fun v9 vi wr=>∃ (i:Nat) (u:Value),u = v9∧vi = .int .i64 i∧i ≤ I.length∧Hid (RS w wr B0 w3.heap.size (.slice A3 I.length c3) I j)∧Hid (intK.own 3 wr B0 TT u (colN I j i))) (fun _ vi _=>I.length - (intOf vi).toNat)
     case atStart=>exact ⟨0,_,rfl,rfl,by omega,HS0,HZ0⟩
     case round =>
      obtain ⟨i,u,rfl,rfl,hi,HS,HO⟩:=hrel
      clear HS0 HZ0
      by_cases hlt2:i < I.length
      ·
       have hdi:decide (i < I.length) = true:=decide_eq_true hlt2
       have ik:(i:Int) < (I.length:Int):=by omega
       obtain ⟨b,off,rfl,hbs,_,hcells⟩:=HRow.out (by omega)
       obtain ⟨x,hx⟩:∃ x,x = I[i]:=⟨_,rfl⟩
       have hcx:=(hcells i hlt2).below HS.out.bel
       rw [← hx] at hcx
       obtain ⟨x0,x1,x2⟩:=I3.three hcx
       have hnx:=(I3.new wr x) j hj3
       rw [Nat.zero_add] at hnx
       have hfit:at3 x j ≤ 1000:=by rw [hx];exact ((HG.out _ (List.getElem_mem hlt2)).at j).2
       have HCol:=Lib.hid (colN_snoc I j i hlt2)
       have HCl:=Lib.hid (colN_len I j i hi)
       rw [← hx] at HCol
       have hbx:Below wr.heap.size wr (wr.alloc (.cells (idsL x).toArray 40)):=bel_alloc (Below.refl _ _) _
       obtain ⟨w0,hw0⟩:∃ w0,w0 = wr.alloc (.cells (idsL x).toArray 40):=⟨_,rfl⟩
       rw [← hw0] at hnx hbx
       have HW:Hid (wr.alloc (.cells (idsL x).toArray 40) = w0):=Lib.hid hw0.symm
       have HBW:Hid (Below B0 wr w0):=Lib.hid (hbx.mono HS.out.hB)
       have HO0:=Lib.hid (Kd.own_below HO.out hbx)
       have hB0w:B0 ≤ w0.heap.size:=(HS.out.below HBW.out).hB
       clear hcells hx hbx hw0 hcx
       obtain ⟨xj,hxj⟩:∃ xj,xj = at3 x j:=⟨_,rfl⟩
       rw [← hxj] at hnx HCol hfit
       unfold idsL at HW
       go_upto_region 18 with fail
       rw [HW.out]
       clear HW hxj x0 x1 x2
       go_wp2_with (at_builtin;go_loud (refine Kd.own_app1 intK (w0:=wr) B0 (by rfl) (.tmp 53) (.tmp 57) 74 3 zero_int 8 (by rfl) Tryz.underlying74 info_int rfl (by decide) u (colN I j i) (xj:Int) [.int .i64 (xj:Int)] TT (by rfl) (by rfl) HO0.out ⟨rfl,by omega,by omega⟩ HBW.out hB0w ?hl ?_);go_loud (case hl=>rw [HCl.out];omega);go_loud (intro v1 w5 ho5 hb5 _ _;have HO5:=Lib.hid ho5;have HB5:=Lib.hid hb5;clear ho5 hb5))
       go_wp2
       go_roundw
       case rel=>exact ⟨i + 1,v1,rfl,by go_num,by omega,Lib.hid (HS.out.below HB5.out),Lib.hid (by rw [← HCol.out];exact HO5.out)⟩
       case measure=>simp [intOf];omega
      ·
       have hdi:decide (i < I.length) = false:=decide_eq_false hlt2
       obtain rfl:i = I.length:=by omega
       obtain ⟨A4,c4,rfl,_,_⟩:=Kd.own_slice HO.out
       have hlen:=colN_len I j I.length (Nat.le_refl _)
       have HWv:Hid (∀ W',Below wr.heap.size wr W' → Calls Tryz.prog 139 #[.slice A4 (colN I j I.length).length c4,.int .i64 10] W' (fun e w6=>∃ (p:Nat) (u0:Value),e = .returned (.tuple #[.pointer (some ⟨p,0,none⟩),.int .i64 0])∧w6.cell? ⟨w3.heap.size,j,none⟩ = some u0∧w6.frozen? ⟨w3.heap.size,j,none⟩ = false∧Hid (∃ B,RS w (w6.setCell ⟨w3.heap.size,j,none⟩ (.pointer (some ⟨p,0,none⟩))) B w3.heap.size (.slice A3 I.length c3) I (j + 1)))):=Lib.hid (fun W' hb=>by
        have hl2:(I.map fun x=>at3 x j).length = I.length:=by simp
        have ho:=Kd.own_below HO.out hb
        have hM:=Kd.M_bound (Kd.own_sl (ok':=TT) ho (fun _ _=>trivial) (fun _ _=>trivial))
        have he:colN I j I.length = natZ (I.map fun x=>at3 x j):=by unfold colN;rw [List.take_length]
        rw [he,natZ_len] at hM ⊢
        refine (WaveW.wave_calls (I.map fun x=>at3 x j) (by omega) (fun n hn=>?_) A4 c4 W' hM).mono ?_
        ·
         obtain ⟨x,hx,rfl⟩:=List.mem_map.1 hn
         exact ((HG.out x hx).at j).2
        ·
         rintro e w6 ⟨⟨p,rfl,hwv⟩,hb6⟩
         have hbs:=HS.out.hB
         have h1:=hb.size
         have h6:=hb6.size
         have hS6:=(HS.out.below (hb.mono hbs)).below (hb6.mono (by omega))
         obtain ⟨u0,hu0⟩:=hS6.rest j hj3
         have hlt:=HS.out.lt
         exact ⟨p,u0,rfl,hu0,hS6.free j,Lib.hid ⟨w6.heap.size,(hS6.up (by omega) (Nat.le_refl _)).put hj3 (hwv.mono (fun k hk hlt=>⟨by omega,hlt⟩))⟩⟩)
       rw [hlen] at HWv ⊢
       clear hlen HO HS
       go_upto_region 20 with fail
       go_region_with (go_at_call 139;refine (HWv.out _ (by repeat (first | exact Below.refl _ _ | refine bel_drew ?_))).mono ?_;rintro e w6 ⟨p,u0,rfl,hu0,hf0,HS6⟩)
       obtain ⟨B6,hS6⟩:=HS6.out
       have HS7:=Lib.hid hS6
       clear hS6 HWv
       go_wp2
       go_roundw
       case rel=>exact ⟨j + 1,B6,by go_num,by omega,HS7⟩
       case measure=>simp [intOf];omega
    ·
     have hdj:decide ((j:Int) < 3) = false:=decide_eq_false (by omega)
     obtain rfl:j = 3:=by omega
     have HDone:=Lib.hid (And.intro HS.out.done HS.out.bel)
     clear HS
     go_wp2
     go_ret2
     exact ⟨⟨_,rfl,HDone.out.1⟩,HDone.out.2⟩
end Go.Proofs.YtnplommdgfgboaaGreatDoor.RingW
namespace Go.Proofs.YtnplommdgfgboaaGreatDoor.SortUse
open Go.RowKit Go.Lib B Rd TermPure LinesPure Tri SortP OrdG TermW Cmp StoreW IdsCmp SortT
theorem swo_terms (S:Term → Prop):Go.Sort.SWO fun x y:{ t:Term // S t }=>decide (cmpTm x.1 y.1 < 0):=by
 have key:∀ x y:Term,decide (cmpTm x y < 0) = decide (ltTm x y):=fun x y=>by simp only [cmpTm_lt]
 refine ⟨fun x=>?_,fun x y z h1 h2=>?_,fun x y z h1 h2=>?_⟩
 ·
  rw [key,decide_eq_false_iff_not]
  exact List.lt_irrefl _
 ·
  rw [key,decide_eq_true_iff] at *
  exact List.lt_trans h1 h2
 ·
  rw [key,decide_eq_false_iff_not] at *
  unfold ltTm at *
  rw [List.not_lt] at *
  exact List.le_trans h2 h1
theorem enters_cmp:∀ args w,(callFunc 89 args).run Tryz.prog w = .ok (.enter 89 args) w:=enters_of Tryz.func89 (by kernel_rfl) rfl
theorem enters_less:∀ args w,(callFunc 92 args).run Tryz.prog w = .ok (.enter 92 args) w:=enters_of Tryz.func92 (by kernel_rfl) rfl
set_option maxRecDepth 100000 in
theorem sort_terms (l:List Term) (hs:∀ t ∈ l,SmallM t) (u:Value) (base:Nat) (ok:Nat → Prop) (w:World) (ho:termK.own 24 w base ok u l) :
  Calls Tryz.prog 88 #[u,.func (.func 89) #[] #[]] w fun e w'=>e = .returned (.tuple #[])∧∃ l':List Term,l'.Perm l∧(l'.Pairwise fun a b=>¬ ltTm b a)∧termK.own 24 w' base ok u l'∧w.grownBy w' u.ownBlock:=by
 rcases Nat.eq_zero_or_pos l.length with h0 | hp
 ·
  obtain rfl:l = []:=List.eq_nil_of_length_eq_zero h0
  obtain ⟨A,c,rfl,_,_⟩:=Kd.own_slice ho
  refine (AnyF.slices_SortFunc_none Tryz.sortTerm A c _ w).mono ?_
  rintro e w' ⟨rfl,rfl⟩
  exact ⟨rfl,[],List.Perm.refl _,List.Pairwise.nil,ho,World.grownBy.refl _ _⟩
 ·
  obtain ⟨g,cap,rfl,hg,hlt,hc⟩:=Kd.own_form ho hp
  refine (sorted_own (P:=Tryz.prog) (ρ:=Tryz.sortTerm_ren) (enc:=termL) (fits:=FitsW) (k:=3) (cf:=cmpTm) (f:=89) (e:=24) (l:=l) (S:=SmallM) (fun x=>rfl) (by decide) (fun t u hu=>by
   simp [termL] at hu
   rcases hu with rfl | rfl | rfl <;> rfl) ⟨0,[],[]⟩ (by constructor <;> simp) enters_cmp Tryz.isAgg24 Tryz.sizeOf24 Tryz.sortTerm (swo_terms SmallM) (fun x y w hx hy=>termCmp_calls x y hx hy w) hs ho).mono ?_
  rintro e w' ⟨rfl,l',h1,h2,h3,h4⟩
  refine ⟨rfl,l',h1,h2.imp (fun h hl=>h ((cmpTm_lt _ _).2 hl)),?_,h4⟩
  rw [← h1.length_eq]
  exact h3
set_option maxRecDepth 100000 in
theorem sort_ids (l:List Ids) (hr:l.Pairwise ltI) (u:Value) (base:Nat) (ok:Nat → Prop) (w:World) (ho:idsK.own 40 w base ok u l) :
  Calls Tryz.prog 91 #[u,.func (.func 92) #[] #[]] w fun e w'=>e = .returned (.tuple #[])∧idsK.own 40 w' base ok u l∧w.grownBy w' u.ownBlock:=by
 rcases Nat.eq_zero_or_pos l.length with h0 | hp
 ·
  obtain rfl:l = []:=List.eq_nil_of_length_eq_zero h0
  obtain ⟨A,c,rfl,_,_⟩:=Kd.own_slice ho
  refine (AnyF.slices_SortFunc_none Tryz.sortIds A c _ w).mono ?_
  rintro e w' ⟨rfl,rfl⟩
  exact ⟨rfl,ho,World.grownBy.refl _ _⟩
 ·
  obtain ⟨g,cap,rfl,hg,hlt,hc⟩:=Kd.own_form ho hp
  refine (sorted_own (P:=Tryz.prog) (ρ:=Tryz.sortIds_ren) (enc:=idsL) (fits:=FitsI) (k:=3) (cf:=cmpI) (f:=92) (e:=40) (l:=l) (S:=fun _=>True) (fun x=>rfl) (by decide) (fun t u hu=>by
   simp [idsL] at hu
   rcases hu with rfl | rfl | rfl <;> rfl) ⟨0,0,0⟩ trivial enters_less Tryz.isAgg40 Tryz.sizeOf40 Tryz.sortIds swo_ids (fun x y w _ _=>less_calls x y w) (fun _ _=>trivial) ho).mono ?_
  rintro e w' ⟨rfl,l',h1,h2,h3,h4⟩
  have he:l' = l:=by
   refine ord_ids.uniq ?_ hr (fun x=>h1.mem_iff)
   have hnd:l.Nodup:=hr.imp fun h e=>by rw [e] at h;exact ord_ids.irrefl _ h
   have hnd':l'.Nodup:=h1.nodup_iff.2 hnd
   refine (h2.and hnd').imp (fun {a b} hh=>?_)
   obtain ⟨ha,hb⟩:=hh
   rcases ord_ids.tri a b trivial trivial with h | h | h
   ·
    exact h
   ·
    exact absurd h hb
   ·
    exact absurd ((cmpI_lt b a).2 h) ha
  subst he
  exact ⟨rfl,h3,h4⟩
end Go.Proofs.YtnplommdgfgboaaGreatDoor.SortUse
namespace Go.Proofs.YtnplommdgfgboaaGreatDoor.TermW
open Go.RowKit Go.Lib B Rd TermPure LinesPure Tri OrdG
open Go.Proofs.YtnplommdgfgboaaGreatDoor.Ref5 (termV)
theorem run_ne_term (x y:Term) (w:World):(binOp .neq 24 (termV x) (termV y)).run Tryz.prog w = .ok (.bool (!decide (x = y))) w:=by
 have e:=TriEq.eq_term' x y 9998 w
 unfold termV
 rw [run_neq_struct,show (10000:Nat) = 9998 + 2 from rfl,e]
 try rfl
theorem run_cutk (w:World) (g L cap k:Nat) (hk:k < L) (hc:L ≤ cap):(Instr.slice 31 (.slice (some ⟨g,0,none⟩) L cap) (some (.int .i64 (k:Int))) none none).run Tryz.prog w = .ok (.slice (some ⟨g,k * 3,none⟩) (L - k) (cap - k)) w:=by
 have hu:(Tryz.prog).underlying 31 = some (.slice ((Tryz.prog).elem 31)):=by
  have:=Tryz.underlying31
  simp [Program.elem,this]
 have hs:∀ w,(sizeOf 24).run Tryz.prog w = .ok 3 w:=Tryz.sizeOf24
 have he:(Tryz.prog).elem 31 = 24:=by simp [Program.elem,Tryz.underlying31]
 rw [run_slice_l w _ _ L cap hu .i64 (k:Int) (by omega) (by omega),he,hs]
 have:¬ cap = k:=by omega
 simp [sliced,Result.andThen,this,Addr.add_lit]
theorem run_takek (w:World) (g L cap k:Nat) (hk:k ≤ L) (hk0:0 < L) (hc:L ≤ cap):(Instr.slice 31 (.slice (some ⟨g,0,none⟩) L cap) none (some (.int .i64 (k:Int))) none).run Tryz.prog w = .ok (.slice (some ⟨g,0,none⟩) k cap) w:=by
 have hu:(Tryz.prog).underlying 31 = some (.slice ((Tryz.prog).elem 31)):=by
  have:=Tryz.underlying31
  simp [Program.elem,this]
 have hs:∀ w,(sizeOf 24).run Tryz.prog w = .ok 3 w:=Tryz.sizeOf24
 have he:(Tryz.prog).elem 31 = 24:=by simp [Program.elem,Tryz.underlying31]
 rw [run_slice_h w _ _ L cap hu .i64 (k:Int) (by omega) (by omega),he,hs]
 have:¬ cap = 0:=by omega
 simp [sliced,Result.andThen,this,Addr.add_lit]
theorem setCells_frozen (g:Nat):∀ (vs:List Value) (o:Nat) (w:World) (a:Addr),(w.setCells g o vs).frozen? a = w.frozen? a
 | [],_,_,_=>rfl
 | v :: vs,o,w,a=>by
  rw [World.setCells,setCells_frozen g vs (o + 1) _ a,World.frozen?_setCell]
theorem setCells_far (g:Nat):∀ (vs:List Value) (o:Nat) (w:World) (q:Nat),q < o → (w.setCells g o vs).cell? ⟨g,q,none⟩ = w.cell? ⟨g,q,none⟩
 | [],_,_,_,_=>rfl
 | v :: vs,o,w,q,h=>by
  rw [World.setCells,setCells_far g vs (o + 1) _ q (by omega)]
  rw [World.cell?_setCell_other _ _ _ _ (by simp;try omega)]
theorem setCells_grown (g:Nat):∀ (vs:List Value) (o:Nat) (w:World),w.grownBy (w.setCells g o vs) (some g)
 | [],_,w=>World.grownBy.refl _ _
 | v :: vs,o,w=>by
  rw [World.setCells]
  exact (grown_setCell w ⟨g,o,none⟩ v).trans (setCells_grown g vs (o + 1) _)
def zeroV:Value:=.agg #[.int .i64 0,.string ⟨#[]⟩,.string ⟨#[]⟩]
theorem zeroCells_len (n:Nat):(Builtin.zeroCells zeroV.cells n).toList.length = n * 3:=by
 simp [Builtin.zeroCells,zeroV,Value.cells]
theorem zeroCells_one (n:Nat):∀ v ∈ (Builtin.zeroCells zeroV.cells n).toList,v.oneCell' = true:=by
 intro v hv
 have key:∀ k:Nat,k < 3 → ((zeroV.cells)[k]!).oneCell' = true:=by decide
 simp [Builtin.zeroCells] at hv
 obtain ⟨i,hi,rfl⟩:=hv
 exact key _ (Nat.mod_lt _ (by decide))
theorem run_clear (w:World) (ty:TypeId) (b o n c:Nat) (hn:0 < n) (hc:∀ j,j < n * 3 → (w.cell? ⟨b,o + j,none⟩).isSome = true) (hf:∀ j,j < n * 3 → w.frozen? ⟨b,o + j,none⟩ = false) :
  (Builtin.clear_ #[31] ty #[.slice (some ⟨b,o,none⟩) n c]).run Tryz.prog w = .ok (.tuple #[]) (w.setCells b o (Builtin.zeroCells zeroV.cells n).toList):=by
 have hv:∀ w,(zeroValue 24).run Tryz.prog w = .ok zeroV w:=Tryz.zeroValue24
 have hst:=run_storeCells_cells (P:=Tryz.prog) b o (Builtin.zeroCells zeroV.cells n).toList 0 w (by rw [zeroCells_len];simpa using hc) (by rw [zeroCells_len];simpa using hf) (zeroCells_one n)
 simp only [Nat.add_zero] at hst
 obtain ⟨m,rfl⟩:∃ m,n = m + 1:=⟨n - 1,by omega⟩
 simp only [Builtin.clear_]
 simp [run_underlying Tryz.underlying31,hv,hst]
set_option maxHeartbeats 25600000 in
set_option maxRecDepth 100000 in
theorem compact_calls (R:List Term) (L cap:Nat) (hL:R.length = L) (hc:L ≤ cap) (hLs:L ≤ 70368744177664) (hcM:cap ≤ maxLen) (g:Nat) (W w:World) (hS:SR W g R w) :
  Calls Tryz.prog 90 #[.slice (some ⟨g,0,none⟩) L cap] w fun e w'=>e = .returned (.slice (some ⟨g,0,none⟩) (compactE R).length cap)∧SR W g (compactE R) w':=by
 have HL:Hid (R.length = L):=Lib.hid hL
 have HS0:=Lib.hid hS
 by_cases hL2:L < 2
 ·
  have hd:decide (L < 2) = true:=decide_eq_true hL2
  have HE:Hid (compactE R = R):=Lib.hid (by
   rcases R with _ | ⟨a,_ | ⟨b,R⟩⟩
   ·
    rfl
   ·
    rfl
   ·
    simp at hL;omega)
  rw [HE.out]
  have HV:Hid (SR W g R w):=Lib.hid hS
  clear hS hL HE
  go_enter Tryz.func90,Tryz.ntmps90
  go_wp2
  go_ret
  exact ⟨by rw [HL.out];rfl,HV.out⟩
 have hd:decide (L < 2) = false:=decide_eq_false hL2
 clear hS hL
 go_enter Tryz.func90,Tryz.ntmps90
 go_wp2
 go_loopw [3] (fun vk wr=>∃ k:Nat,vk = .int .i64 k∧1 ≤ k∧k ≤ L∧Hid ((∀ i (h:i < R.length),1 ≤ i → i < k → R[i] ≠ (R[i - 1]'(by omega)))∧SR W g R wr)) (fun vk _=>L - (intOf vk).toNat)
 case atStart=>exact ⟨1,by go_num,by omega,by omega,Lib.hid ⟨fun i h h1 h2=>by omega,HS0.out⟩⟩
 case round =>
  obtain ⟨k,rfl,hk1,hkL,HR⟩:=hrel
  clear HS0
  by_cases hlt:k < L
  ·
   have hdk:decide (k < L) = true:=decide_eq_true hlt
   obtain ⟨kp,hkp⟩:∃ kp,kp = k - 1:=⟨_,rfl⟩
   have hwk:IntKind.i64.wrap ((k:Int) - 1) = (kp:Int):=by rw [IntKind.wrap_i64];omega
   have jk:(k:Int) < (L:Int):=by omega
   have jkp:(kp:Int) < (L:Int):=by omega
   obtain ⟨x,hx⟩:∃ x,x = R[k]'(by rw [HL.out];exact hlt):=⟨_,rfl⟩
   obtain ⟨y,hy⟩:∃ y,y = R[k - 1]'(by rw [HL.out];omega):=⟨_,rfl⟩
   have hcx:=HR.out.2.cells k (by rw [HL.out];exact hlt)
   have hcy:=HR.out.2.cells kp (by rw [HL.out];omega)
   rw [show R[kp]'(by rw [HL.out];omega) = y by rw [hy];congr 1] at hcy
   rw [← hx] at hcx
   have HS1:=Lib.hid HR.out.2
   by_cases hv:x = y
   ·
    have HV:Hid (decide (x = y) = true):=Lib.hid (decide_eq_true hv)
    have HI0:Hid (CI R R L k (k + 1)):=Lib.hid (CI.start HL.out hk1 hlt HR.out.1 (by rw [← hx,← hy];exact hv))
    clear hv hx hy hkp
    obtain ⟨n,hn⟩:∃ n,n = L - k:=⟨_,rfl⟩
    obtain ⟨c2,hc2⟩:∃ c2,c2 = cap - k:=⟨_,rfl⟩
    have HSl:∀ w,(Instr.slice 31 (.slice (some ⟨g,0,none⟩) L cap) (some (.int .i64 (k:Int))) none none).run Tryz.prog w = .ok (.slice (some ⟨g,k * 3,none⟩) n c2) w:=fun w=>by rw [hn,hc2];exact run_cutk w g L cap k hlt hc
    have HN:=Lib.hid hn
    have hnL:k + n ≤ L:=by omega
    clear hc2 hn HR
    have heq:∀ w,(binOp .eql 24 (termV x) (termV y)).run Tryz.prog w = .ok (.bool true) w:=fun w=>by
     have:=TriEq.run_eq_term x y w
     rw [HV.out] at this
     exact this
    obtain ⟨xk,xt,xe⟩:=x
    obtain ⟨yk,yt,ye⟩:=y
    obtain ⟨x0,x1,x2⟩:=hcx
    obtain ⟨y0,y1,y2⟩:=hcy
    unfold termV at heq
    dsimp only at x0 x1 x2 y0 y1 y2 heq
    go_upto_region 6 with fail
    go_quiet (fail)
    clear x0 x1 x2 y0 y1 y2 heq
    have HS2:=Lib.hid (HS1.out.drewN nq)
    clear HS1
    have hk1L:k + 1 ≤ L:=by omega
    go_wp2
    go_loopw [3,5] (fun vk vm wx=>∃ (k1 m:Nat) (l':List Term),vk = .int .i64 k1∧vm = .int .i64 m∧k ≤ k1∧1 ≤ m∧k1 < k + m∧k + m ≤ L∧Hid (CI R l' L k1 (k + m)∧SR W g l' wx)) (fun _ vm _=>L - (intOf vm).toNat)
    case atStart=>exact ⟨k,1,R,rfl,by go_num,by omega,by omega,by omega,by omega,Lib.hid ⟨HI0.out,HS2.out⟩⟩
    case round =>
     obtain ⟨k1,m,l',rfl,rfl,hkk,hm1,hkm,hmL,HR⟩:=hrel
     clear HI0 HS2 HV
     by_cases hlt2:m < n
     ·
      have hd2:decide (m < n) = true:=decide_eq_true hlt2
      have jm:(m:Int) < (n:Int):=by omega
      obtain ⟨mp,hmp⟩:∃ mp,mp = m - 1:=⟨_,rfl⟩
      have hwm:IntKind.i64.wrap ((m:Int) - 1) = (mp:Int):=by rw [IntKind.wrap_i64];omega
      have jmp:(mp:Int) < (n:Int):=by omega
      have hjL:k + m < L:=by have:=HN.out;omega
      obtain ⟨x,hx⟩:∃ x,x = R[k + m]'(by rw [HL.out];exact hjL):=⟨_,rfl⟩
      obtain ⟨y,hy⟩:∃ y,y = R[k + m - 1]'(by rw [HL.out];omega):=⟨_,rfl⟩
      have hcx:C3 wr g (k * 3 + m * 3) x:=by
       rw [← Nat.add_mul]
       exact HR.out.2.at (by rw [HR.out.1.tail (k + m) (by omega),hx];exact List.getElem?_eq_getElem _)
      have hcy:C3 wr g (k * 3 + mp * 3) y:=by
       rw [← Nat.add_mul,show k + mp = k + m - 1 by omega]
       exact HR.out.2.at (by rw [HR.out.1.tail (k + m - 1) (by omega),hy];exact List.getElem?_eq_getElem _)
      have HS1:=Lib.hid HR.out.2
      by_cases hv:x = y
      ·
       have HV:Hid ((!decide (x = y)) = false):=Lib.hid (by rw [decide_eq_true hv];rfl)
       have HI1:Hid (CI R l' L k1 (k + (m + 1))):=Lib.hid (HR.out.1.same HL.out (by omega) hjL (by rw [← hx,← hy];exact hv))
       clear hv hx hy hmp HR
       have heq:∀ w,(binOp .neq 24 (termV x) (termV y)).run Tryz.prog w = .ok (.bool false) w:=fun w=>by
        have:=run_ne_term x y w
        rw [HV.out] at this
        exact this
       obtain ⟨xk,xt,xe⟩:=x
       obtain ⟨yk,yt,ye⟩:=y
       obtain ⟨x0,x1,x2⟩:=hcx
       obtain ⟨y0,y1,y2⟩:=hcy
       unfold termV at heq
       dsimp only at x0 x1 x2 y0 y1 y2 heq
       go_upto_region 11 with fail
       go_quiet (fail)
       clear x0 x1 x2 y0 y1 y2 heq HV
       have HS2:=Lib.hid (HS1.out.drewN nq)
       clear HS1
       go_wp2
       go_roundw
       case rel=>exact ⟨k1,m + 1,l',rfl,by go_num,by omega,by omega,by omega,by omega,Lib.hid ⟨HI1.out,HS2.out⟩⟩
       case measure=>simp [intOf];omega
      ·
       have HV:Hid ((!decide (x = y)) = true):=Lib.hid (by rw [decide_eq_false hv];rfl)
       have HI1:Hid (CI R (l'.set k1 x) L (k1 + 1) (k + (m + 1))):=Lib.hid (by
        have:=HR.out.1.put HL.out (by omega) hjL (by omega) (by rw [← hx,← hy];exact hv)
        rw [← hx] at this
        exact this)
       have jk1:(k1:Int) < (L:Int):=by omega
       have hk1l:k1 < l'.length:=by rw [HR.out.1.len];omega
       have HPut:Hid (∀ w2,SR W g l' w2 → SR W g (l'.set k1 x) (put3 w2 g (k1 * 3) x)):=Lib.hid (fun w2 h=>h.set k1 hk1l x)
       have HFree:Hid (∀ w2,SR W g l' w2 → (∀ d,d < 3 → w2.frozen? ⟨g,k1 * 3 + d,none⟩ = false)):=Lib.hid (fun w2 hS2 d hd=>hS2.free _ (by omega))
       have HOld:Hid (∃ z,∀ w2,SR W g l' w2 → C3 w2 g (k1 * 3) z):=Lib.hid ⟨l'[k1],fun w2 h=>h.cells k1 _⟩
       have HXc:=Lib.hid hcx
       clear hv hx hy hmp HR hk1l
       have heq:∀ w,(binOp .neq 24 (termV x) (termV y)).run Tryz.prog w = .ok (.bool true) w:=fun w=>by
        have:=run_ne_term x y w
        rw [HV.out] at this
        exact this
       obtain ⟨xk,xt,xe⟩:=x
       obtain ⟨yk,yt,ye⟩:=y
       obtain ⟨x0,x1,x2⟩:=hcx
       obtain ⟨y0,y1,y2⟩:=hcy
       unfold termV at heq
       dsimp only at x0 x1 x2 y0 y1 y2 heq
       go_upto_region 11 with fail
       go_quiet (fail)
       clear y0 y1 y2 heq HV x0 x1 x2
       have HS2:=Lib.hid (HS1.out.drewN nq)
       have HSW:=Lib.hid (HPut.out _ HS2.out)
       unfold put3 at HSW
       dsimp only at HSW
       have f0:=HFree.out _ HS2.out 0 (by omega)
       have f1:=HFree.out _ HS2.out 1 (by omega)
       have f2:=HFree.out _ HS2.out 2 (by omega)
       obtain ⟨z,hz⟩:=HOld.out
       obtain ⟨z0,z1,z2⟩:=hz _ HS2.out
       have hcw:C3 (wr.drewN nq) g (k * 3 + m * 3) ⟨xk,xt,xe⟩:=HXc.out.moved rfl
       obtain ⟨a0,a1,a2⟩:=hcw
       simp only [Nat.add_zero] at f0
       clear hz HXc HS1
       dsimp only at a0 a1 a2
       generalize wr.drewN nq = w2 at *
       go_wp2
       go_roundw
       case rel=>exact ⟨k1 + 1,m + 1,_,by go_num,by go_num,by omega,by omega,by omega,by omega,Lib.hid ⟨HI1.out,HSW.out⟩⟩
       case measure=>simp [intOf];omega
     ·
      have hd2:decide (m < n) = false:=decide_eq_false hlt2
      have hk1L2:k1 < L:=by omega
      have HEnd:Hid (compactE R = l'.take k1):=Lib.hid (by
       have:=HR.out.1.head
       rw [List.take_of_length_le (l:=R) (by rw [HL.out];have:=HN.out;omega)] at this
       exact this.symm)
      obtain ⟨n2,hn2⟩:∃ n2,n2 = L - k1:=⟨_,rfl⟩
      obtain ⟨c3,hc3⟩:∃ c3,c3 = cap - k1:=⟨_,rfl⟩
      have HSl2:∀ w,(Instr.slice 31 (.slice (some ⟨g,0,none⟩) L cap) (some (.int .i64 (k1:Int))) none none).run Tryz.prog w = .ok (.slice (some ⟨g,k1 * 3,none⟩) n2 c3) w:=fun w=>by rw [hn2,hc3];exact run_cutk w g L cap k1 hk1L2 hc
      have HSl3:∀ w,(Instr.slice 31 (.slice (some ⟨g,0,none⟩) L cap) none (some (.int .i64 (k1:Int))) none).run Tryz.prog w = .ok (.slice (some ⟨g,0,none⟩) k1 cap) w:=fun w=>run_takek w g L cap k1 (by omega) (by omega) hc
      have HLl:l'.length = L:=HR.out.1.len
      obtain ⟨Z,hZ⟩:∃ Z,Z = (Builtin.zeroCells zeroV.cells n2).toList:=⟨_,rfl⟩
      have HClr:∀ ty,(Builtin.clear_ #[31] ty #[.slice (some ⟨g,k1 * 3,none⟩) n2 c3]).run Tryz.prog wr = .ok (.tuple #[]) (wr.setCells g (k1 * 3) Z):=fun ty=>by
       rw [hZ]
       refine run_clear wr ty g (k1 * 3) n2 c3 (by omega) (fun j hj=>?_) (fun j hj=>?_)
       ·
        obtain ⟨q,d,hd,he⟩:∃ q d,d < 3∧k1 * 3 + j = q * 3 + d:=⟨(k1 * 3 + j) / 3,(k1 * 3 + j) % 3,Nat.mod_lt _ (by omega),by omega⟩
        rw [he]
        have hq:q < l'.length:=by omega
        obtain ⟨c0,c1,c2⟩:=HR.out.2.cells q hq
        rcases (by omega:d = 0 ∨ d = 1 ∨ d = 2) with h | h | h <;> subst h
        ·
         rw [show q * 3 + 0 = q * 3 from rfl,c0];rfl
        ·
         rw [c1];rfl
        ·
         rw [c2];rfl
       ·
        exact HR.out.2.free _ (by omega)
      have HV:Hid ((compactE R).length = k1∧SR W g (compactE R) (wr.setCells g (k1 * 3) Z)):=Lib.hid (by
       have hlen:(compactE R).length = k1:=by rw [HEnd.out,List.length_take];omega
       refine ⟨hlen,HR.out.2.grown.trans (setCells_grown g Z _ _),fun i hi=>?_,fun j hj=>by rw [setCells_frozen];exact HR.out.2.free j (by omega)⟩
       have hi2:i < l'.length:=by omega
       have hcell:=HR.out.2.cells i hi2
       have he:(compactE R)[i] = l'[i]:=by
        have:∀ (A B:List Term) (e:A = B) (h:i < A.length) (h':i < B.length),A[i] = B[i]:=by rintro A B rfl h h';rfl
        rw [this _ _ HEnd.out hi (by rw [← HEnd.out];exact hi),List.getElem_take]
       rw [he]
       obtain ⟨c0,c1,c2⟩:=hcell
       have far:∀ o,o < k1 * 3 → (wr.setCells g (k1 * 3) Z).cell? ⟨g,o,none⟩ = wr.cell? ⟨g,o,none⟩:=fun o ho=>setCells_far g Z (k1 * 3) wr o ho
       exact ⟨(far _ (by omega)).trans c0,(far _ (by omega)).trans c1,(far _ (by omega)).trans c2⟩)
      clear hn2 hc3 hZ HEnd HR HLl
      go_wp2
      go_ret
      exact ⟨by rw [HV.out.1];rfl,HV.out.2⟩
   ·
    have HV:Hid (decide (x = y) = false):=Lib.hid (decide_eq_false hv)
    have HI0:Hid (∀ i (h:i < R.length),1 ≤ i → i < k + 1 → R[i] ≠ (R[i - 1]'(by omega))):=Lib.hid (fun i h h1 h2=>by
     by_cases e:i = k
     ·
      subst e
      rw [← hx,← hy]
      exact hv
     ·
      exact HR.out.1 i h h1 (by omega))
    clear hv hx hy hkp HR
    have heq:∀ w,(binOp .eql 24 (termV x) (termV y)).run Tryz.prog w = .ok (.bool false) w:=fun w=>by
     have:=TriEq.run_eq_term x y w
     rw [HV.out] at this
     exact this
    obtain ⟨xk,xt,xe⟩:=x
    obtain ⟨yk,yt,ye⟩:=y
    obtain ⟨x0,x1,x2⟩:=hcx
    obtain ⟨y0,y1,y2⟩:=hcy
    unfold termV at heq
    dsimp only at x0 x1 x2 y0 y1 y2 heq
    go_upto_region 6 with fail
    go_quiet (fail)
    clear x0 x1 x2 y0 y1 y2 heq HV
    have HS2:=Lib.hid (HS1.out.drewN nq)
    clear HS1
    go_wp2
    go_roundw
    case rel=>exact ⟨k + 1,by go_num,by omega,by omega,Lib.hid ⟨HI0.out,HS2.out⟩⟩
    case measure=>simp [intOf];omega
  ·
   have hdk:decide (k < L) = false:=decide_eq_false hlt
   have HV:Hid ((compactE R).length = L∧SR W g (compactE R) wr):=Lib.hid (by
    have he:compactE R = R:=by
     have h1:=compE_same R L (by omega) (by rw [HL.out];exact Nat.le_refl _) (fun i hi h1 h2=>HR.out.1 i hi h1 (by omega))
     rw [List.take_of_length_le (by rw [HL.out];exact Nat.le_refl _)] at h1
     exact h1
    rw [he]
    exact ⟨HL.out,HR.out.2⟩)
   clear HR
   go_wp2
   go_ret
   exact ⟨by rw [HV.out.1];rfl,HV.out.2⟩
end Go.Proofs.YtnplommdgfgboaaGreatDoor.TermW
namespace Go.Proofs.YtnplommdgfgboaaGreatDoor.Search
open Go.RowKit Go.Lib B Rd TermPure LinesPure Tri SortP OrdG TermW Cmp
set_option maxHeartbeats 6400000 in
set_option maxRecDepth 100000 in
theorem id_calls (R:List Term) (t:Term) (hR:R.Pairwise ltTm) (hs:∀ x ∈ R,SmallM x) (hst:SmallM t) (g:Nat) (A:Option Addr) (c:Nat) (w:World) (hg:w.cell? ⟨g,1,none⟩ = some (.slice A R.length c)) (HL:termK.sl.M w (fun k=>k < w.heap.size) R [.slice A R.length c]) (hb:R.length ≤ 1000000) :
  Calls Tryz.prog 18 #[.pointer (some ⟨g,0,none⟩),Ref5.termV t] w fun e w'=>e = .returned (.int .i64 (idOf R t:Nat))∧Below w.heap.size w w':=by
 have b0:Below w.heap.size w (w.alloc (.cells (termL t).toArray 24)):=bel_alloc (Below.refl _ _) _
 have HM0:=Kd.M_bound (Kd.M_below HL b0)
 have HC:=Lib.hid (fun w2 (h:Below (w.alloc (.cells (termL t).toArray 24)).heap.size (w.alloc (.cells (termL t).toArray 24)) w2)=>place_calls R t hR hs hst A c w2 (Kd.M_bound (Kd.M_below HM0 h)) hb)
 have HB0:=Lib.hid b0
 have hcy:=C3.new w t
 have hg1:(w.alloc (.cells (termL t).toArray 24)).cell? ⟨g,1,none⟩ = some (.slice A R.length c):=(b0.cell (p:=⟨g,1,none⟩) (cell_lt hg)).trans hg
 have HRow:=Lib.hid (fun hp=>term_cells HM0 hp)
 have HP:=Lib.hid (id_pure (t:=t) hR)
 clear HL hs hst hR b0 HM0 hg
 obtain ⟨w0,hw0⟩:∃ w0,w0 = w.alloc (.cells (termL t).toArray 24):=⟨_,rfl⟩
 have hgp:=fun p:QT.Bel w0=>p.cell (b:=g) (o:=1) (v:=.slice A R.length c) (by rw [hw0];exact hg1)
 have hcp:=fun p:QT.Bel w0=>C3.bel (w:=w0) (g:=w.heap.size) (o:=0) (t:=t) (by rw [hw0];exact hcy) p
 have y0:=fun p=>(hcp p).c0
 have y1:=fun p=>(hcp p).c1
 have y2:=fun p=>(hcp p).c2
 have HCP:=Lib.hid (fun p:QT.Bel w0=>HC.out p.w (by rw [← hw0];exact p.bel))
 have HCX:=Lib.hid hcy
 rw [← hw0] at HRow HB0 HCX
 clear hcp HC hg1 hcy
 simp only [Nat.zero_add] at y1 y2
 obtain ⟨i,hi⟩:∃ i,i = posOf R t:=⟨_,rfl⟩
 obtain ⟨fo,hfo⟩:∃ fo,fo = foundAt R t:=⟨_,rfl⟩
 rw [← hi,← hfo] at HCP HP
 clear hi hfo
 have HNe:=Lib.hid (fun (x:Term) w=>run_ne_term x t w)
 have HWX:Hid (w.alloc (.cells #[.int .i64 t.kind,.string (mkS t.text),.string (mkS t.extra)] 24) = w0):=Lib.hid hw0.symm
 clear hw0
 unfold Ref5.termV at *
 go_enter Tryz.func18,Tryz.ntmps18
 go_upto_region 3 with fail
 rw [HWX.out]
 refine QT.region_all (by kernel_rfl) (by kernel_rfl) ?_
 iterate 5 (go_big_quiet_step (fail))
 go_big_quiet_step (exact QT.Bel.call _ (HCP.out _))
 iterate 5 (go_big_quiet_step (fail))
 refine wpQuiet_nil ?_
 intro w2 hw'
 obtain ⟨⟨_,hb2⟩,rfl⟩:=hw'
 have hg3:=hgp ⟨w2,hb2⟩
 have a0:=y0 ⟨w2,hb2⟩
 have a1:=y1 ⟨w2,hb2⟩
 have a2:=y2 ⟨w2,hb2⟩
 dsimp only at hg3 a0 a1 a2
 have HB3:=Lib.hid (bel_step HB0.out hb2)
 have HR3:=Lib.hid (fun hp=>by obtain ⟨b,off,h1,h2,h3,h4⟩:=HRow.out hp;exact (⟨b,off,h1,fun i hi=>(h4 i hi).below hb2⟩:∃ b off,A = some ⟨b,off,none⟩∧∀ i (hi:i < R.length),C3 w2 b (off + i * 3) R[i]))
 clear hgp y0 y1 y2 hb2 HCP HRow HCX HB0
 cases fo
 ·
  have HV:=Lib.hid (HP.out.1 rfl)
  clear HP
  go_upto_region 4 with fail
  go_quiet (fail)
  go_wp2
  go_ret
  exact ⟨by rw [HV.out];rfl,⟨HB3.out.os,HB3.out.tape,HB3.out.output,HB3.out.size,HB3.out.block⟩⟩
 ·
  obtain ⟨hil,hv⟩:=HP.out.2 rfl
  obtain ⟨b,off,rfl,hcells⟩:=HR3.out (by omega)
  have hx:=hcells i hil
  obtain ⟨x,hxe⟩:∃ x,x = R[i]:=⟨_,rfl⟩
  rw [← hxe] at hx hv
  have hib:(i:Int) < (R.length:Int):=by omega
  have HNx:=Lib.hid (HNe.out x)
  clear HP HR3 hcells HNe hxe
  by_cases hxt:x = t
  ·
   rw [if_pos hxt] at hv
   have HV:=Lib.hid hv
   have heq:Hid (∀ w,(binOp .neq 24 (.agg #[.int .i64 x.kind,.string (mkS x.text),.string (mkS x.extra)]) (.agg #[.int .i64 t.kind,.string (mkS t.text),.string (mkS t.extra)])).run Tryz.prog w = .ok (.bool false) w):=Lib.hid (fun w=>by
    have:=HNx.out w
    rw [decide_eq_true hxt] at this
    exact this)
   have hneq:=heq.out
   clear HNx hv hxt
   obtain ⟨xk,xt,xe⟩:=x
   obtain ⟨yk,yt,ye⟩:=t
   obtain ⟨x0,x1,x2⟩:=hx
   dsimp only at x0 x1 x2 a0 a1 a2 hneq
   go_upto_region 4 with fail
   go_quiet (fail)
   go_wp2
   go_ret
   exact ⟨by rw [HV.out];rfl,⟨HB3.out.os,HB3.out.tape,HB3.out.output,HB3.out.size,HB3.out.block⟩⟩
  ·
   rw [if_neg hxt] at hv
   have HV:=Lib.hid hv
   have heq:Hid (∀ w,(binOp .neq 24 (.agg #[.int .i64 x.kind,.string (mkS x.text),.string (mkS x.extra)]) (.agg #[.int .i64 t.kind,.string (mkS t.text),.string (mkS t.extra)])).run Tryz.prog w = .ok (.bool true) w):=Lib.hid (fun w=>by
    have:=HNx.out w
    rw [decide_eq_false hxt] at this
    exact this)
   have hneq:=heq.out
   clear HNx hv hxt
   obtain ⟨xk,xt,xe⟩:=x
   obtain ⟨yk,yt,ye⟩:=t
   obtain ⟨x0,x1,x2⟩:=hx
   dsimp only at x0 x1 x2 a0 a1 a2 hneq
   go_upto_region 4 with fail
   go_quiet (fail)
   go_wp2
   go_ret
   exact ⟨by rw [HV.out];rfl,⟨HB3.out.os,HB3.out.tape,HB3.out.output,HB3.out.size,HB3.out.block⟩⟩
end Go.Proofs.YtnplommdgfgboaaGreatDoor.Search
namespace Go.Proofs.YtnplommdgfgboaaGreatDoor.ParseP
open Go.Lib B Utf TermPure LinesPure SortP Round
def cutL:List UInt8 → List UInt8 × List UInt8 × Bool
 | []=>([],[],false)
 | b :: l=>if b = 10 then ([],l,true) else (b :: (cutL l).1,(cutL l).2)
theorem cutL_index:∀ l:List UInt8,((cutL l).2.2 = true∧∃ i:Nat,index l [10] = i∧l.take i = (cutL l).1∧l.drop (i + 1) = (cutL l).2.1) ∨ ((cutL l).2.2 = false∧index l [10] = -1∧(cutL l).1 = l∧(cutL l).2.1 = [])
 | []=>.inr ⟨rfl,rfl,rfl,rfl⟩
 | b :: l=>by
  rw [cutL,index]
  by_cases hb:b = 10
  ·
   subst hb
   refine .inl ⟨by simp,0,by simp [List.isPrefixOf],by simp,by simp⟩
  ·
   have h1:([10]:List UInt8).isPrefixOf (b :: l) = false:=by
    have:((10:UInt8) == b) = false:=by rw [beq_eq_false_iff_ne];exact fun e=>hb e.symm
    simp [List.isPrefixOf,this]
   rw [h1,if_neg hb]
   rcases cutL_index l with ⟨h2,i,h3,h4,h5⟩ | ⟨h2,h3,h4,h5⟩
   ·
    refine .inl ⟨h2,i + 1,?_,?_,?_⟩
    ·
     rw [h3]
     have:((i:Int) == -1) = false:=by rw [beq_eq_false_iff_ne];omega
     simp [this]
    ·
     simp [h4]
    ·
     simp [h5]
   ·
    exact .inr ⟨h2,by simp [h3],by simp [h4],h5⟩
theorem cutL_eq (l:List UInt8):Lib.cut l [10] = cutL l:=by
 unfold Lib.cut
 rcases cutL_index l with ⟨h2,i,h3,h4,h5⟩ | ⟨h2,h3,h4,h5⟩
 ·
  rw [h3,if_pos (by omega)]
  simp only [Int.toNat_natCast,List.length_singleton]
  rw [h4,h5,← h2]
 ·
  rw [h3,if_neg (by omega),← h2,← h5]
  conv=>rhs;rw [← Prod.eta (cutL l),h4]
theorem cutL_rest:∀ l:List UInt8,l ≠ [] → (cutL l).2.1.length < l.length
 | [],h=>absurd rfl h
 | b :: l,_=>by
  rw [cutL]
  by_cases hb:b = 10
  ·
   rw [if_pos hb];simp
  ·
   rw [if_neg hb]
   by_cases hl:l = []
   ·
    subst hl;simp [cutL]
   ·
    have:=cutL_rest l hl
    simp
    omega
theorem cutL_len:∀ l:List UInt8,(cutL l).1.length ≤ l.length
 | []=>Nat.le_refl _
 | b :: l=>by
  rw [cutL]
  by_cases hb:b = 10
  ·
   rw [if_pos hb];simp
  ·
   rw [if_neg hb]
   have:=cutL_len l
   simp
   omega
theorem cutL_line:∀ (x r:List UInt8),(∀ b ∈ x,b ≠ 10) → cutL (x ++ 10 :: r) = (x,r,true)
 | [],r,_=>by rw [List.nil_append,cutL,if_pos rfl]
 | b :: x,r,h=>by
  rw [List.cons_append,cutL,if_neg (h b (by simp)),cutL_line x r (fun y hy=>h y (by simp [hy]))]
def lineS (s:List UInt8):List UInt8:=if (cutL s).2.2 = true then Lib.trimSuffix (cutL s).1 [13] else (cutL s).1
def restS (s:List UInt8):List UInt8:=(cutL s).2.1
theorem trim_len (x:List UInt8):(Lib.trimSuffix x [13]).length ≤ x.length:=by
 unfold Lib.trimSuffix
 split
 ·
  simp
 ·
  exact Nat.le_refl _
theorem lineS_len (s:List UInt8):(lineS s).length ≤ s.length:=by
 have h1:=cutL_len s
 have h2:=trim_len (cutL s).1
 unfold lineS
 split <;> omega
theorem suffix_iff (x:List UInt8):Lib.hasSuffix x [13] = true ↔ ∃ y,x = y ++ [13]:=by
 unfold Lib.hasSuffix
 rw [List.isSuffixOf_iff_suffix]
 constructor
 ·
  rintro ⟨y,rfl⟩;exact ⟨y,rfl⟩
 ·
  rintro ⟨y,rfl⟩;exact ⟨y,rfl⟩
theorem trim_cr (x:List UInt8):Lib.trimSuffix (x ++ [13]) [13] = x:=by
 unfold Lib.trimSuffix
 rw [if_pos ((suffix_iff _).2 ⟨x,rfl⟩)]
 simp
theorem trim_no (x:List UInt8) (h:∀ y,x ≠ y ++ [13]):Lib.trimSuffix x [13] = x:=by
 unfold Lib.trimSuffix
 rw [if_neg (fun hs=>by obtain ⟨y,hy⟩:=(suffix_iff _).1 hs;exact h y hy)]
theorem line_nl (x r:List UInt8) (h:∀ b ∈ x,b ≠ 10) (hc:∀ y,x ≠ y ++ [13]):lineS (x ++ 10 :: r) = x∧restS (x ++ 10 :: r) = r:=by
 unfold lineS restS
 rw [cutL_line x r h]
 exact ⟨by rw [if_pos rfl];exact trim_no x hc,rfl⟩
theorem line_crnl (x r:List UInt8) (h:∀ b ∈ x,b ≠ 10):lineS (x ++ 13 :: 10 :: r) = x∧restS (x ++ 13 :: 10 :: r) = r:=by
 have e:x ++ 13 :: 10 :: r = (x ++ [13]) ++ 10 :: r:=by simp
 unfold lineS restS
 rw [e,cutL_line (x ++ [13]) r (by intro b hb;rcases List.mem_append.1 hb with hb | hb;exact h b hb;simp at hb;subst hb;decide)]
 exact ⟨by rw [if_pos rfl];exact trim_cr x,rfl⟩
abbrev Res:=List Triple × Nat × Int
def pgo:Nat → List UInt8 → List Triple → Nat → Res
 | 0,_,T,n=>(sortT T,n,0)
 | f + 1,s,T,n =>
  if s = [] then (sortT T,n,0)
  else if 200 < n + 1 then ([],n + 1,3)
  else match lineOf false (lineS s) with
   | none=>([],n + 1,2)
   | some none=>pgo f (restS s) T (n + 1)
   | some (some t) =>
    if t ∈ T then pgo f (restS s) T (n + 1)
    else if 100 < T.length + 1 then ([],n + 1,3)
    else pgo f (restS s) (T ++ [t]) (n + 1)
theorem pgo_nil:∀ (f:Nat) (T:List Triple) (n:Nat),pgo f [] T n = (sortT T,n,0)
 | 0,T,n=>rfl
 | f + 1,T,n=>by rw [pgo,if_pos rfl]
theorem pgo_fuel:∀ (f g:Nat) (s:List UInt8) (T:List Triple) (n:Nat),s.length ≤ f → s.length ≤ g → pgo f s T n = pgo g s T n
 | 0,g,s,T,n,h,_=>by
  obtain rfl:s = []:=List.eq_nil_of_length_eq_zero (by omega)
  rw [pgo_nil,pgo_nil]
 | f + 1,0,s,T,n,_,h=>by
  obtain rfl:s = []:=List.eq_nil_of_length_eq_zero (by omega)
  rw [pgo_nil,pgo_nil]
 | f + 1,g + 1,s,T,n,hf,hg=>by
  by_cases hs:s = []
  ·
   subst hs;rw [pgo_nil,pgo_nil]
  ·
   have hr:(restS s).length < s.length:=cutL_rest s hs
   rw [pgo,pgo,if_neg hs,if_neg hs]
   have ih:=fun T n=>pgo_fuel f g (restS s) T n (by omega) (by omega)
   simp only [ih]
def pg (s:List UInt8) (T:List Triple) (n:Nat):Res:=pgo s.length s T n
theorem pg_nil (T:List Triple) (n:Nat):pg [] T n = (sortT T,n,0):=rfl
theorem pg_step (s:List UInt8) (T:List Triple) (n:Nat) (hs:s ≠ []):pg s T n =
  if 200 < n + 1 then ([],n + 1,3)
  else match lineOf false (lineS s) with
   | none=>([],n + 1,2)
   | some none=>pg (restS s) T (n + 1)
   | some (some t) =>
    if t ∈ T then pg (restS s) T (n + 1)
    else if 100 < T.length + 1 then ([],n + 1,3)
    else pg (restS s) (T ++ [t]) (n + 1):=by
 have hr:(restS s).length < s.length:=cutL_rest s hs
 have e:∀ T n,pg (restS s) T n = pgo (s.length - 1) (restS s) T n:=fun T n=>pgo_fuel _ _ _ _ _ (Nat.le_refl _) (by omega)
 obtain ⟨f,hf⟩:∃ f,s.length = f + 1:=⟨s.length - 1,by omega⟩
 simp only [e]
 unfold pg
 rw [hf,pgo,if_neg hs]
 try rfl
theorem pg_full (s:List UInt8) (T:List Triple) (n:Nat) (hs:s ≠ []) (h:200 < n + 1):pg s T n = ([],n + 1,3):=by rw [pg_step s T n hs,if_pos h]
theorem pg_bad (s:List UInt8) (T:List Triple) (n:Nat) (hs:s ≠ []) (h:¬ 200 < n + 1) (hl:lineOf false (lineS s) = none):pg s T n = ([],n + 1,2):=by rw [pg_step s T n hs,if_neg h,hl]
theorem pg_none (s:List UInt8) (T:List Triple) (n:Nat) (hs:s ≠ []) (h:¬ 200 < n + 1) (hl:lineOf false (lineS s) = some none):pg s T n = pg (restS s) T (n + 1):=by rw [pg_step s T n hs,if_neg h,hl]
theorem pg_old (s:List UInt8) (T:List Triple) (n:Nat) (t:Triple) (hs:s ≠ []) (h:¬ 200 < n + 1) (hl:lineOf false (lineS s) = some (some t)) (ht:t ∈ T):pg s T n = pg (restS s) T (n + 1):=by
 rw [pg_step s T n hs,if_neg h,hl]
 dsimp only
 rw [if_pos ht]
theorem pg_many (s:List UInt8) (T:List Triple) (n:Nat) (t:Triple) (hs:s ≠ []) (h:¬ 200 < n + 1) (hl:lineOf false (lineS s) = some (some t)) (ht:t ∉ T) (hm:100 < T.length + 1):pg s T n = ([],n + 1,3):=by
 rw [pg_step s T n hs,if_neg h,hl]
 dsimp only
 rw [if_neg ht,if_pos hm]
theorem pg_new (s:List UInt8) (T:List Triple) (n:Nat) (t:Triple) (hs:s ≠ []) (h:¬ 200 < n + 1) (hl:lineOf false (lineS s) = some (some t)) (ht:t ∉ T) (hm:¬ 100 < T.length + 1):pg s T n = pg (restS s) (T ++ [t]) (n + 1):=by
 rw [pg_step s T n hs,if_neg h,hl]
 dsimp only
 rw [if_neg ht,if_neg hm]
def parse (s:List UInt8):Res:=if 20000 < s.length then ([],0,4) else pg s [] 0
theorem lineOf_is {s:List UInt8} {t:Triple} (h:lineOf false s = some (some t)):isTriple t = true:=by
 unfold lineOf at h
 repeat' split at h
 all_goals first | (cases h;done) | (cases h;rename_i hc;exact hc.2.2) | skip
def putAll (T l:List Triple):List Triple:=l.foldl (fun T t=>if t ∈ T then T else T ++ [t]) T
theorem putAll_len:∀ (l T:List Triple),(putAll T l).length ≤ T.length + l.length
 | [],T=>Nat.le_refl _
 | t :: l,T=>by
  have:=putAll_len l (if t ∈ T then T else T ++ [t])
  show (putAll (if t ∈ T then T else T ++ [t]) l).length ≤ _
  by_cases h:t ∈ T
  ·
   rw [if_pos h] at this ⊢;simp;omega
  ·
   rw [if_neg h] at this ⊢;simp at this ⊢;omega
def Stands (x:List UInt8) (l:List Triple) (k:Nat):Prop:=
 ∀ (r:List UInt8) (T:List Triple) (n:Nat),n + k ≤ 200 → T.length + l.length ≤ 100 → pg (x ++ r) T n = pg r (putAll T l) (n + k)
theorem Stands.nil:Stands [] [] 0:=fun r T n _ _=>rfl
theorem Stands.append {x y:List UInt8} {l m:List Triple} {j k:Nat} (h:Stands x l j) (h':Stands y m k):Stands (x ++ y) (l ++ m) (j + k):=fun r T n hn hT=>by
 rw [List.length_append] at hT
 have:=putAll_len l T
 rw [List.append_assoc,h (y ++ r) T n (by omega) (by omega),h' r _ (n + j) (by omega) (by omega)]
 unfold putAll
 rw [List.foldl_append,Nat.add_assoc]
theorem Stands.empty {x:List UInt8} (e:List UInt8) (he:e = [10] ∨ e = [13,10]) (hx:∀ b ∈ x,b ≠ 10) (hc:∀ y,x ≠ y ++ [13]) (hl:lineOf false x = some none):Stands (x ++ e) [] 1:=fun r T n hn hT=>by
 obtain ⟨h1,h2⟩:lineS (x ++ e ++ r) = x∧restS (x ++ e ++ r) = r:=by
  rcases he with rfl | rfl
  ·
   rw [List.append_assoc];exact line_nl x r hx hc
  ·
   rw [List.append_assoc];exact line_crnl x r hx
 have hne:x ++ e ++ r ≠ []:=by rcases he with rfl | rfl <;> simp
 rw [pg_none _ T n hne (by omega) (by rw [h1];exact hl),h2]
 try rfl
theorem Stands.flat {f:Triple → List UInt8}:∀ l:List Triple,(∀ t ∈ l,Stands (f t) [t] 1) → Stands (l.flatMap f) l l.length
 | [],_=>Stands.nil
 | t :: l,h=>by
  rw [List.flatMap_cons,List.length_cons,Nat.add_comm]
  exact (h t (by simp)).append (Stands.flat l (fun u hu=>h u (by simp [hu])))
theorem esc_nonl_all:∀ k:Fin 128,∀ x ∈ escB (UInt8.ofNat k.val),x ≠ 10∧x ≠ 13:=by decide +kernel
theorem escB_nonl (b:UInt8):∀ x ∈ escB b,x ≠ 10∧x ≠ 13:=by
 by_cases h:b.toNat < 128
 ·
  obtain ⟨k,rfl⟩:=byte_eq b h
  exact esc_nonl_all k
 ·
  rw [escB_high b (by omega)]
  intro x hx
  simp at hx
  subst hx
  constructor
  ·
   intro e;subst e;exact h (by decide)
  ·
   intro e;subst e;exact h (by decide)
def NoNl (l:List UInt8):Prop:=∀ b ∈ l,b ≠ 10∧b ≠ 13
theorem NoNl.append {a b:List UInt8} (h:NoNl a) (h':NoNl b):NoNl (a ++ b):=fun x hx=>(List.mem_append.1 hx).elim (h x) (h' x)
theorem NoNl.cons {c:UInt8} {b:List UInt8} (h:c ≠ 10∧c ≠ 13) (h':NoNl b):NoNl (c :: b):=fun x hx=>by
 rcases List.mem_cons.1 hx with rfl | hx
 ·
  exact h
 ·
  exact h' x hx
theorem NoNl.nil:NoNl []:=fun x hx=>by cases hx
theorem NoNl.quoted (s:List UInt8):NoNl (TermPure.quoted s):=
 NoNl.cons (by decide) (NoNl.append (fun x hx=>by
  obtain ⟨b,_,hb⟩:=List.mem_flatMap.1 hx
  exact escB_nonl b x hb) (NoNl.cons (by decide) NoNl.nil))
theorem isT_parts {t:Triple} (h:isTriple t = true):is t.s = true∧is t.p = true∧is t.o = true:=by
 unfold isTriple at h
 simp only [Bool.and_eq_true] at h
 exact ⟨h.1,h.2.1,h.2.2.1⟩
theorem is_small {t:Term} (h:is t = true):t.text.length ≤ 60∧t.extra.length ≤ 60∧1 ≤ t.kind∧t.kind ≤ 5:=by
 rcases is_cases h with ⟨hk,h1,h2⟩ | ⟨hk,h1,h2⟩ | ⟨hk,h1,h2⟩ | ⟨hk,h1,h2⟩ | ⟨hk,h1,h2⟩
 ·
  unfold isIRI at h1
  simp only [Bool.and_eq_true,decide_eq_true_eq] at h1
  rw [h2,hk]
  exact ⟨h1.2.1,by simp,by decide,by decide⟩
 ·
  unfold isLabel at h1
  simp only [Bool.and_eq_true,decide_eq_true_eq] at h1
  rw [h2,hk]
  exact ⟨by omega,by simp,by decide,by decide⟩
 ·
  unfold isText at h1
  simp only [Bool.and_eq_true,decide_eq_true_eq] at h1
  rw [h2,hk]
  exact ⟨by omega,by simp,by decide,by decide⟩
 ·
  unfold isText at h1
  unfold isLang at h2
  simp only [Bool.and_eq_true,decide_eq_true_eq] at h1 h2
  rw [hk]
  exact ⟨by omega,by omega,by decide,by decide⟩
 ·
  unfold isText at h1
  unfold isIRI at h2
  simp only [Bool.and_eq_true,decide_eq_true_eq] at h1 h2
  rw [hk]
  exact ⟨by omega,by omega,by decide,by decide⟩
end Go.Proofs.YtnplommdgfgboaaGreatDoor.ParseP
