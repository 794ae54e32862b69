/-
  Texts of the claim, one behind the other: Clones, Wave, IdsCmp, Ring, Ring2, SortUse, CompT, StoreID, ParseP, MapT, RefCmp, RefCmp2, Long, SortW, SwapR, Rot, Ins, SymPure, SymL.
-/
import Derived.Test.YtnplommdgfgboaaGreatDoorJ3
import Derived.Deep.OwnRows
import Derived.Lib.IndexMore
import Derived.MapKept
import Derived.WideKeyRuns
set_option linter.unusedVariables false
set_option linter.unusedSimpArgs false
set_option maxHeartbeats 25600000
set_option maxRecDepth 100000
open Go.Proofs.Tryz
namespace Go.Proofs.YtnplommdgfgboaaGreatDoor
namespace Clones
open Go.RowKit Go.Lib B Rd TermPure LinesPure Tri OrdG StoreW
def TT:Nat -> Prop:=fun _=>True
def zero_term:Value:=.agg #[.int .i64 0,.string ⟨#[]⟩,.string ⟨#[]⟩]
theorem info_term:(Tryz.prog.info? 24).map (fun i=>(i.zero,i.size,i.bytes)) = some (some zero_term,termK.sz,40):=by kernel_rfl
theorem any_term:∀ (w:World) (ok ok':Nat -> Prop) (x:Term) (cs:List Value),termK.M w ok x cs -> termK.M w ok' x cs:=fun _ _ _ _ _ h=>h
theorem clone_term_calls (l:List Term) (A:Option Addr) (c:Nat) (w:World) (HL:termK.sl.M w (fun _=>True) l [.slice A l.length c]) (hb:l.length * 40 <= 140737488355328) :
  Calls Tryz.prog 46 #[.slice A l.length c] w fun e w'=>(∃ v,e = .returned v/\termK.own 24 w' w.heap.size TT v l)/\Below w.heap.size w w':=by
 have HM:=Zz HL;obtain ⟨A',c',he,h1,h2,h3,hr⟩:=HL;obtain ⟨rfl,rfl⟩:A = A'/\c = c':=by simpa using he
 cases A with
 | none =>
  have hc:=h3 rfl;have hl0:l = []:=Zn (by omega);subst hl0 hc;have HO:Hid (termK.own 24 w w.heap.size TT (.slice none 0 0) []):=Zz (Kd.own_nil _ _ _ _ _);clear he h1 h2 h3 hr HM hb;simp only [List.length_nil];have hq:∀ w,Sem.run Tryz.prog (binOp BinOp.eql 31 (Value.slice none 0 0) (Value.slice none 0 0)) w = .ok (.bool true) w:=fun w=>run_eql_nil_slice w 31 24 none 0 0 0 0 underlying31
  go_enter func46,ntmps46;go_wp2;go_ret;exact ⟨⟨_,rfl,HO.o⟩,bR _ _⟩
 | some ad =>
  have b0:Below w.heap.size w (w.alloc (.cells #[] 24)):=bel_alloc (bR _ _) _;have HO0:Hid (termK.own 24 (w.alloc (.cells #[] 24)) w.heap.size TT (.slice (some ⟨w.heap.size,0,none⟩) 0 0) []):=
   Zz (Kd.own_block (cells:=[]) (xs:=[]) (lR _) (Kd.heap_new _ _) rfl (by simp) (fun i x h=>by simp at h))
  have HR0:=Zz (Kd.M_below HM.o b0);clear he h1 h2 h3 hr;have hq:∀ w,Sem.run Tryz.prog (binOp BinOp.eql 31 (Value.slice (some ad) l.length c) (Value.slice none 0 0)) w = .ok (.bool false) w:=fun w=>Lib.run_eql_slice_nil w 31 24 (some ad) l.length c 0 0 underlying31
  go_enter func46,ntmps46;go_wp2_with (at_builtin;refine Kd.own_app termK w.heap.size rfl (.tmp 5) (.tmp 6) 31 24 zero_term 40 rfl underlying31 info_term rfl (by decide) _ [] l (some ad) c TT rfl rfl HO0.o (.inr ⟨HR0.o,any_term⟩) b0 (by simp) (by simp;omega) ?_;intro v1 w1 ho1 hb1 hg1 hv1;clear hg1 hv1;rw [Zf] at ho1;have HO1:=Zz ho1;have HB1:=Zz hb1;clear ho1 hb1 b0)
  go_wp2;go_ret;exact ⟨⟨_,rfl,HO1.o⟩,HB1.o⟩
def zero_ids:Value:=.agg #[.int .i64 0,.int .i64 0,.int .i64 0]
theorem info_ids:(Tryz.prog.info? 40).map (fun i=>(i.zero,i.size,i.bytes)) = some (some zero_ids,idsK.sz,24):=by kernel_rfl
theorem any_ids:∀ (w:World) (ok ok':Nat -> Prop) (x:Ids) (cs:List Value),idsK.M w ok x cs -> idsK.M w ok' x cs:=fun _ _ _ _ _ h=>h
theorem clone_ids_calls (l:List Ids) (A:Option Addr) (c:Nat) (w:World) (HL:idsK.sl.M w (fun _=>True) l [.slice A l.length c]) (hb:l.length * 24 <= 140737488355328) :
  Calls Tryz.prog 52 #[.slice A l.length c] w fun e w'=>(∃ v,e = .returned v/\idsK.own 40 w' w.heap.size TT v l)/\Below w.heap.size w w':=by
 have HM:=Zz HL;obtain ⟨A',c',he,h1,h2,h3,hr⟩:=HL;obtain ⟨rfl,rfl⟩:A = A'/\c = c':=by simpa using he
 cases A with
 | none =>
  have hc:=h3 rfl;have hl0:l = []:=Zn (by omega);subst hl0 hc;have HO:Hid (idsK.own 40 w w.heap.size TT (.slice none 0 0) []):=Zz (Kd.own_nil _ _ _ _ _);clear he h1 h2 h3 hr HM hb;simp only [List.length_nil];have hq:∀ w,Sem.run Tryz.prog (binOp BinOp.eql 48 (Value.slice none 0 0) (Value.slice none 0 0)) w = .ok (.bool true) w:=fun w=>run_eql_nil_slice w 48 40 none 0 0 0 0 underlying48
  go_enter func52,ntmps52;go_wp2;go_ret;exact ⟨⟨_,rfl,HO.o⟩,bR _ _⟩
 | some ad =>
  have b0:Below w.heap.size w (w.alloc (.cells #[] 40)):=bel_alloc (bR _ _) _;have HO0:Hid (idsK.own 40 (w.alloc (.cells #[] 40)) w.heap.size TT (.slice (some ⟨w.heap.size,0,none⟩) 0 0) []):=
   Zz (Kd.own_block (cells:=[]) (xs:=[]) (lR _) (Kd.heap_new _ _) rfl (by simp) (fun i x h=>by simp at h))
  have HR0:=Zz (Kd.M_below HM.o b0);clear he h1 h2 h3 hr;have hq:∀ w,Sem.run Tryz.prog (binOp BinOp.eql 48 (Value.slice (some ad) l.length c) (Value.slice none 0 0)) w = .ok (.bool false) w:=fun w=>Lib.run_eql_slice_nil w 48 40 (some ad) l.length c 0 0 underlying48
  go_enter func52,ntmps52;go_wp2_with (at_builtin;refine Kd.own_app idsK w.heap.size rfl (.tmp 5) (.tmp 6) 48 40 zero_ids 24 rfl underlying48 info_ids rfl (by decide) _ [] l (some ad) c TT rfl rfl HO0.o (.inr ⟨HR0.o,any_ids⟩) b0 (by simp) (by simp;omega) ?_;intro v1 w1 ho1 hb1 hg1 hv1;clear hg1 hv1;rw [Zf] at ho1;have HO1:=Zz ho1;have HB1:=Zz hb1;clear ho1 hb1 b0)
  go_wp2;go_ret;exact ⟨⟨_,rfl,HO1.o⟩,HB1.o⟩
def zero_int:Value:=.int .i64 0
theorem info_int:(Tryz.prog.info? 3).map (fun i=>(i.zero,i.size,i.bytes)) = some (some zero_int,intK.sz,8):=by kernel_rfl
theorem any_int:∀ (w:World) (ok ok':Nat -> Prop) (x:Int) (cs:List Value),intK.M w ok x cs -> intK.M w ok' x cs:=fun _ _ _ _ _ h=>h
theorem clone_int_calls (l:List Int) (A:Option Addr) (c:Nat) (w:World) (HL:intK.sl.M w (fun _=>True) l [.slice A l.length c]) (hb:l.length * 8 <= 140737488355328) :
  Calls Tryz.prog 185 #[.slice A l.length c] w fun e w'=>(∃ v,e = .returned v/\intK.own 3 w' w.heap.size TT v l)/\Below w.heap.size w w':=by
 have HM:=Zz HL;obtain ⟨A',c',he,h1,h2,h3,hr⟩:=HL;obtain ⟨rfl,rfl⟩:A = A'/\c = c':=by simpa using he
 cases A with
 | none =>
  have hc:=h3 rfl;have hl0:l = []:=Zn (by omega);subst hl0 hc;have HO:Hid (intK.own 3 w w.heap.size TT (.slice none 0 0) []):=Zz (Kd.own_nil _ _ _ _ _);clear he h1 h2 h3 hr HM hb;simp only [List.length_nil];have hq:∀ w,Sem.run Tryz.prog (binOp BinOp.eql 74 (Value.slice none 0 0) (Value.slice none 0 0)) w = .ok (.bool true) w:=fun w=>run_eql_nil_slice w 74 3 none 0 0 0 0 underlying74
  go_enter func185,ntmps185;go_wp2;go_ret;exact ⟨⟨_,rfl,HO.o⟩,bR _ _⟩
 | some ad =>
  have b0:Below w.heap.size w (w.alloc (.cells #[] 3)):=bel_alloc (bR _ _) _;have HO0:Hid (intK.own 3 (w.alloc (.cells #[] 3)) w.heap.size TT (.slice (some ⟨w.heap.size,0,none⟩) 0 0) []):=
   Zz (Kd.own_block (cells:=[]) (xs:=[]) (lR _) (Kd.heap_new _ _) rfl (by simp) (fun i x h=>by simp at h))
  have HR0:=Zz (Kd.M_below HM.o b0);clear he h1 h2 h3 hr;have hq:∀ w,Sem.run Tryz.prog (binOp BinOp.eql 74 (Value.slice (some ad) l.length c) (Value.slice none 0 0)) w = .ok (.bool false) w:=fun w=>Lib.run_eql_slice_nil w 74 3 (some ad) l.length c 0 0 underlying74
  go_enter func185,ntmps185;go_wp2_with (at_builtin;refine Kd.own_app intK w.heap.size rfl (.tmp 5) (.tmp 6) 74 3 zero_int 8 rfl underlying74 info_int rfl (by decide) _ [] l (some ad) c TT rfl rfl HO0.o (.inr ⟨HR0.o,any_int⟩) b0 (by simp) (by simp;omega) ?_;intro v1 w1 ho1 hb1 hg1 hv1;clear hg1 hv1;rw [Zf] at ho1;have HO1:=Zz ho1;have HB1:=Zz hb1;clear ho1 hb1 b0)
  go_wp2;go_ret;exact ⟨⟨_,rfl,HO1.o⟩,HB1.o⟩
def zero_str:Value:=.string ⟨#[]⟩
theorem info_str:(Tryz.prog.info? 9).map (fun i=>(i.zero,i.size,i.bytes)) = some (some zero_str,strK.sz,16):=by kernel_rfl
theorem any_str:∀ (w:World) (ok ok':Nat -> Prop) (x:ByteArray) (cs:List Value),strK.M w ok x cs -> strK.M w ok' x cs:=fun _ _ _ _ _ h=>h
theorem clone_str_calls (l:List ByteArray) (A:Option Addr) (c:Nat) (w:World) (HL:strK.sl.M w (fun _=>True) l [.slice A l.length c]) (hb:l.length * 16 <= 140737488355328) :
  Calls Tryz.prog 99 #[.slice A l.length c] w fun e w'=>(∃ v,e = .returned v/\strK.own 9 w' w.heap.size TT v l)/\Below w.heap.size w w':=by
 have HM:=Zz HL;obtain ⟨A',c',he,h1,h2,h3,hr⟩:=HL;obtain ⟨rfl,rfl⟩:A = A'/\c = c':=by simpa using he
 cases A with
 | none =>
  have hc:=h3 rfl;have hl0:l = []:=Zn (by omega);subst hl0 hc;have HO:Hid (strK.own 9 w w.heap.size TT (.slice none 0 0) []):=Zz (Kd.own_nil _ _ _ _ _);clear he h1 h2 h3 hr HM hb;simp only [List.length_nil];have hq:∀ w,Sem.run Tryz.prog (binOp BinOp.eql 51 (Value.slice none 0 0) (Value.slice none 0 0)) w = .ok (.bool true) w:=fun w=>run_eql_nil_slice w 51 9 none 0 0 0 0 underlying51
  go_enter func99,ntmps99;go_wp2;go_ret;exact ⟨⟨_,rfl,HO.o⟩,bR _ _⟩
 | some ad =>
  have b0:Below w.heap.size w (w.alloc (.cells #[] 9)):=bel_alloc (bR _ _) _;have HO0:Hid (strK.own 9 (w.alloc (.cells #[] 9)) w.heap.size TT (.slice (some ⟨w.heap.size,0,none⟩) 0 0) []):=
   Zz (Kd.own_block (cells:=[]) (xs:=[]) (lR _) (Kd.heap_new _ _) rfl (by simp) (fun i x h=>by simp at h))
  have HR0:=Zz (Kd.M_below HM.o b0);clear he h1 h2 h3 hr;have hq:∀ w,Sem.run Tryz.prog (binOp BinOp.eql 51 (Value.slice (some ad) l.length c) (Value.slice none 0 0)) w = .ok (.bool false) w:=fun w=>Lib.run_eql_slice_nil w 51 9 (some ad) l.length c 0 0 underlying51
  go_enter func99,ntmps99;go_wp2_with (at_builtin;refine Kd.own_app strK w.heap.size rfl (.tmp 5) (.tmp 6) 51 9 zero_str 16 rfl underlying51 info_str rfl (by decide) _ [] l (some ad) c TT rfl rfl HO0.o (.inr ⟨HR0.o,any_str⟩) b0 (by simp) (by simp;omega) ?_;intro v1 w1 ho1 hb1 hg1 hv1;clear hg1 hv1;rw [Zf] at ho1;have HO1:=Zz ho1;have HB1:=Zz hb1;clear ho1 hb1 b0)
  go_wp2;go_ret;exact ⟨⟨_,rfl,HO1.o⟩,HB1.o⟩
end Clones
namespace WaveW
open Go.RowKit Go.Lib B Rd StoreW PackW Clones
theorem bits_thousand:∀ n:Fin 1001,Lib.bitLen n.val <= 10:=by decide +kernel
theorem wave_calls (l:List Nat) (hl:l.length <= 1000) (hn:∀ n ∈ l,n <= 1000) (A:Option Addr) (c:Nat) (w:World) (HL:intK.sl.M w (fun k=>k < w.heap.size) (natZ l) [.slice A l.length c]) :
  Calls Tryz.prog 139 #[.slice A l.length c,.int .i64 10] w fun e w'=>(∃ g,e = .returned (.tuple #[.pointer (some ⟨g,0,none⟩),.int .i64 0])/\WaveAt w' (fun k=>w.heap.size <= k) g l)/\Below w.heap.size w w':=by
 have HP:=Zz (pack_calls l 10 (by omega) hl (fun n h=>⟨by have:=hn n h;omega,bits_thousand ⟨n,by have:=hn n h;omega⟩⟩) A c w HL);have HC:=Zz (fun w2 (hb:Below w.heap.size w w2)=>clone_int_calls (natZ l) A c w2 (by rw [natZ_len];exact intK.sl.mono (fun _ _ _=>trivial) (Kd.M_below HL hb)) (by rw [natZ_len];omega));rw [natZ_len] at HC;have HZ:=Zz (natZ_len l);clear HL hn;go_enter func139,ntmps139;go_wp2_with fail;refine HP.o.mono ?_;rintro e w2 ⟨⟨v,rfl,_⟩,hb2⟩;have HC2:=Zz (HC.o w2 hb2);have HB2:=Zz hb2;clear HC hb2 HP;go_wp2_with fail;refine HC2.o.mono ?_;rintro e w3 ⟨⟨v3,rfl,ho3⟩,hb3⟩;obtain ⟨A3,c3,rfl,hc3,hA3⟩:=Kd.own_slice ho3;have HB3:=Zz (bel_step HB2.o hb3);have HB4:Hid (Below w.heap.size w (w3.alloc (.cells #[.slice A3 (natZ l).length c3] 231))):=Zz (bel_alloc HB3.o _);have HW:Hid (WaveAt (w3.alloc (.cells #[.slice A3 (natZ l).length c3] 231)) (fun k=>w.heap.size <= k) w3.heap.size l):=Zz (by
  refine ⟨HB3.o.size,A3,c3,?_,?_⟩
  ·
   rw [World.cell?,Kd.heap_new,<- HZ.o]
   try rfl
  ·
   have h2:=own_from any_int (Kd.own_lower HB2.o.size (Kd.own_alloc ho3 (.cells #[.slice A3 (natZ l).length c3] 231)));rw [<- HZ.o];exact h2)
 clear ho3 hb3 HC2;go_wp2;go_ret2;exact ⟨⟨w3.heap.size,rfl,HW.o⟩,HB4.o⟩
end WaveW
namespace IdsCmp
open Go.RowKit Go.Lib B Rd OrdG StoreW SortP
def I3 (w:World) (g o:Nat) (x:Ids):Prop:=∀ k,k < 3 -> w.cell? ⟨g,o + k,none⟩ = some (.int .i64 (at3 x k:Nat))
theorem I3.of {w:World} {g o:Nat} {x:Ids} (h:∀ j u,(idsL x)[j]? = some u -> w.cell? ⟨g,o + j,none⟩ = some u):I3 w g o x:=fun k hk=>by
 match k,hk with
 | 0,_=>exact h 0 _ rfl
 | 1,_=>exact h 1 _ rfl
 | 2,_=>exact h 2 _ rfl
theorem I3.lt {w:World} {g o:Nat} {x:Ids} (h:I3 w g o x):g < w.heap.size:=World.block_lt_of_cell? w ⟨g,o + 0,none⟩ (h 0 (by decide))
theorem I3.moved {w w':World} {g o:Nat} {x:Ids} (h:I3 w g o x) (hm:w'.heap[g]? = w.heap[g]?):I3 w' g o x:=fun k hk=>(World.cell?_of_block (a:=⟨g,o + k,none⟩) hm).trans (h k hk)
theorem I3.below {w w':World} {g o:Nat} {x:Ids} (h:I3 w g o x) (hb:Below w.heap.size w w'):I3 w' g o x:=h.moved (hb.block g h.lt)
theorem I3.new (w:World) (x:Ids):I3 (w.alloc (.cells (idsL x).toArray 40)) w.heap.size 0 x:=I3.of fun j u hu=>by
 unfold World.cell?
 dsimp only
 rw [Kd.heap_new,Nat.zero_add]
 simpa using hu
def cI (x y:Ids) (k:Nat):Int:=compareInt (at3 x k:Nat) (at3 y k:Nat)
def cmpI (x y:Ids):Int:=orI (cI x y 0) (cI x y 1) (cI x y 2)
theorem cI_zero (x y:Ids) (k:Nat):cI x y k = 0 ↔ at3 x k = at3 y k:=by
 unfold cI compareInt
 split
 ·
  omega
 ·
  split <;> omega
theorem cI_neg (x y:Ids) (k:Nat):cI x y k < 0 ↔ at3 x k < at3 y k:=by
 unfold cI compareInt
 split
 ·
  omega
 ·
  split <;> omega
theorem cmpI_lt (x y:Ids):cmpI x y < 0 ↔ ltI x y:=by
 have a0:=cI_zero x y 0;have a1:=cI_zero x y 1;have b0:=cI_neg x y 0;have b1:=cI_neg x y 1;have b2:=cI_neg x y 2;unfold cmpI orI ltI;simp only [at3] at a0 a1 b0 b1 b2
 split
 ·
  omega
 ·
  split <;> omega
instance (x y:Ids):Decidable (ltI x y):=by unfold ltI;infer_instance
theorem eq0 {x y:Ids} {k:Nat} (h:at3 x k = at3 y k):¬ cI x y k ≠ 0:=fun hn=>hn ((cI_zero x y k).2 h)
theorem swo_ids:Go.Sort.SWO fun x y:{ t:Ids // True }=>decide (cmpI x.1 y.1 < 0):=by
 have key:∀ x y:Ids,decide (cmpI x y < 0) = decide (ltI x y):=fun x y=>by simp only [cmpI_lt]
 refine ⟨fun x=>?_,fun x y z h1 h2=>?_,fun x y z h1 h2=>?_⟩
 ·
  rw [key,decide_eq_false_iff_not];exact ord_ids.irrefl _
 ·
  rw [key,decide_eq_true_iff] at *;exact ord_ids.trans _ _ _ h1 h2
 ·
  rw [key,decide_eq_false_iff_not] at *;intro h3;rcases ord_ids.tri x.1 y.1 trivial trivial with h | h | h
  ·
   exact h1 h
  ·
   rw [h] at h3;exact h2 h3
  ·
   exact h2 (ord_ids.trans _ _ _ h h3)
theorem cmp_at {x y:Ids} {k:Nat} (hk:k < 3) (he:∀ j,j < k -> at3 x j = at3 y j) (hne:cI x y k ≠ 0):cmpI x y = cI x y k:=by
 unfold cmpI orI
 match k,hk with
 | 0,_=>rw [if_pos hne]
 | 1,_ =>
  rw [if_neg (eq0 (he 0 (by decide))),if_pos hne]
 | 2,_ =>
  rw [if_neg (eq0 (he 0 (by decide))),if_neg (eq0 (he 1 (by decide)))]
theorem cmp_all {x y:Ids} (he:∀ j,j < 3 -> at3 x j = at3 y j):cmpI x y = 0:=by
 unfold cmpI orI;rw [if_neg (eq0 (he 0 (by decide))),if_neg (eq0 (he 1 (by decide)))];exact (cI_zero x y 2).2 (he 2 (by decide))
theorem compare_calls (x y:Ids) (g o h p c d:Nat) (w:World) (hx:I3 w g o x) (hy:I3 w h p y) :
  Calls Tryz.prog 93 #[.slice (some ⟨g,o,none⟩) 3 c,.slice (some ⟨h,p,none⟩) 3 d] w fun e w'=>e = .returned (.int .i64 (cmpI x y))/\w = w':=by
 have HX:=Zz hx;have HY:=Zz hy;clear hx hy;go_enter func93,ntmps93;go_wp2;go_loopw [11] (fun vk wr=>∃ k:Nat,vk = .int .i64 k/\k <= 3/\Hid (∀ j,j < k -> at3 x j = at3 y j)/\w = wr) (fun vk _=>3 - (intOf vk).toNat)
 case atStart=>exact ⟨0,rfl,by omega,Zz (fun j h=>by omega),rfl⟩
 case round =>
  obtain ⟨k,rfl,hk,HE,rfl⟩:=hrel;by_cases hlt:k < 3
  ·
   have hd:decide ((k:Int) < 3) = true:=dT (by omega);have hd2:decide ((3:Int) <= (k:Int)) = false:=dF (by omega);have ik:(k:Int) < 3:=by omega
   have hcx:=HX.o k hlt;have hcy:=HY.o k hlt;have HC:=Zz (fun w=>Tryz.cmp_Compare_int (at3 x k:Nat) (at3 y k:Nat) w);obtain ⟨v,hv⟩:∃ v,v = cI x y k:=⟨_,rfl⟩;have hvc:compareInt (at3 x k:Nat) (at3 y k:Nat) = v:=hv.symm;rw [hvc] at HC;have HZ:Hid (v = 0 -> ∀ j,j < k + 1 -> at3 x j = at3 y j):=Zz (fun h0 j hj=>by
    by_cases e:j = k
    ·
     subst e;exact (cI_zero x y j).1 (by rw [<- hv];exact h0)
    ·
     exact HE.o j (by omega))
   have HN:Hid (v ≠ 0 -> cmpI x y = v):=Zz (fun h0=>by rw [hv];exact cmp_at hlt HE.o (by rw [<- hv];exact h0));generalize at3 x k = xk at *;generalize at3 y k = yk at *;clear hv hvc HE;by_cases hv0:v = 0
   ·
    have hb:(v != 0) = false:=by simp [hv0]
    have HZ2:=Zz (HZ.o hv0);clear HZ HN;subst hv0;go_wp2_with fail;refine (HC.o _).mono ?_;rintro e w2 ⟨rfl,rfl⟩;go_wp2;go_roundw
    case rel=>exact ⟨k + 1,by go_num,by omega,HZ2,trivial⟩
    case measure=>simp [intOf];omega
   ·
    have hb:(v != 0) = true:=by simp [hv0]
    have HV:=Zz (HN.o hv0);clear HZ HN;go_wp2_with fail;refine (HC.o _).mono ?_;rintro e w2 ⟨rfl,rfl⟩;go_wp2;go_ret;exact ⟨by rw [HV.o];rfl,rfl⟩
  ·
   have hd:decide ((k:Int) < 3) = false:=dF (by omega);obtain rfl:k = 3:=by omega
   have HV:Hid (cmpI x y = 0):=Zz (cmp_all HE.o);go_wp2;go_ret;exact ⟨by rw [HV.o];rfl,rfl⟩
theorem less_calls (x y:Ids) (w:World):Calls Tryz.prog 92 #[.agg (idsL x).toArray,.agg (idsL y).toArray] w fun e w'=>e = .returned (.int .i64 (cmpI x y))/\Below w.heap.size w w':=by
 have hb:Below w.heap.size w ((w.alloc (.cells (idsL x).toArray 40)).alloc (.cells (idsL y).toArray 40)):=bel_alloc (bel_alloc (bR _ _) _) _;have hx:I3 ((w.alloc (.cells (idsL x).toArray 40)).alloc (.cells (idsL y).toArray 40)) w.heap.size 0 x:=(I3.new w x).below (bel_alloc (bR _ _) _);have hy:I3 ((w.alloc (.cells (idsL x).toArray 40)).alloc (.cells (idsL y).toArray 40)) (w.heap.size + 1) 0 y:=by
  have:=I3.new (w.alloc (.cells (idsL x).toArray 40)) y
  rwa [show (w.alloc (.cells (idsL x).toArray 40)).heap.size = w.heap.size + 1 by simp] at this
 have HB:=Zz hb;obtain ⟨w0,hw0⟩:∃ w0,w0 = ((w.alloc (.cells (idsL x).toArray 40)).alloc (.cells (idsL y).toArray 40)):=⟨_,rfl⟩;rw [<- hw0] at HB;have HC:=Zz (fun (p:QT.Bel w0) c d=>(compare_calls x y w.heap.size 0 (w.heap.size + 1) 0 c d p.w (hx.below (by rw [<- hw0];exact p.bel)) (hy.below (by rw [<- hw0];exact p.bel))).mono (fun e w' (h:e = .returned (.int .i64 (cmpI x y))/\p.w = w')=>(⟨h.1,by rw [<- h.2];exact bR _ _⟩:e = .returned (.int .i64 (cmpI x y))/\Below p.w.heap.size p.w w')));have HW:Hid ((w.alloc (.cells (idsL x).toArray 40)).alloc (.cells (idsL y).toArray 40) = w0):=Zz hw0.symm;generalize cmpI x y = v at *;clear hb hx hy hw0;unfold idsL at *;go_enter func92,ntmps92;go_upto_region 1 with fail
 rw [HW.o];refine QT.region_all (by kernel_rfl) (by kernel_rfl) ?_
 iterate 2 (go_big_quiet_step (fail))
 go_big_quiet_step (exact QT.Bel.call _ (HC.o _ _ _))
 iterate 1 (go_big_quiet_step (fail))
 refine wpQuiet_nil ?_;intro w2 hw';obtain ⟨⟨_,hb2⟩,rfl⟩:=hw';have HB2:=Zz (bel_step HB.o hb2);go_wp2;go_ret;exact ⟨rfl,HB2.o⟩
end IdsCmp
namespace RingW
open Go.RowKit Go.Lib B Rd OrdG StoreW SortP IdsCmp Clones
def Good (x:Ids):Prop:=(1 <= x.a/\x.a <= 1000)/\(1 <= x.b/\x.b <= 1000)/\(1 <= x.c/\x.c <= 1000)
theorem Good.at {x:Ids} (h:Good x) (k:Nat):1 <= at3 x k/\at3 x k <= 1000:=by
 obtain ⟨h1,h2,h3⟩:=h
 match k with
 | 0=>exact h1
 | 1=>exact h2
 | k + 2=>exact h3
def badV:Value:=.func (.func 137) #[] #[]
theorem bad_calls (n:Nat) (h1:1 <= n) (h2:n <= 1000) (w:World):Calls Tryz.prog 137 #[.int .i64 n] w fun e w'=>e = .returned (.bool false)/\w = w':=by
 have a1:¬ (n:Int) < 1:=by omega
 have a2:¬ (1000:Int) < (n:Int):=by omega
 have d1:decide ((n:Int) < 1) = false:=dF a1;have d2:decide ((1000:Int) < (n:Int)) = false:=dF a2;go_enter func137,ntmps137;go_wp2;go_ret;exact ⟨rfl,rfl⟩
theorem index_calls (x:Ids) (hg:Good x) (g o c:Nat) (w:World) (hx:I3 w g o x) :
  Calls Tryz.prog 184 #[.slice (some ⟨g,o,none⟩) 3 c,badV] w fun e w'=>e = .returned (.int .i64 (-1))/\w = w':=by
 have HX:=Zz hx;have HG:=Zz hg;unfold badV;clear hx hg;go_enter func184,ntmps184;go_wp2;go_loopw [8] (fun vk wr=>∃ k:Nat,vk = .int .i64 k/\k <= 3/\w = wr) (fun vk _=>3 - (intOf vk).toNat)
 case atStart=>exact ⟨0,rfl,by omega,rfl⟩
 case round =>
  obtain ⟨k,rfl,hk,rfl⟩:=hrel;by_cases hlt:k < 3
  ·
   have hd:decide ((k:Int) < 3) = true:=dT (by omega);have ik:(k:Int) < 3:=by omega
   have hcx:=HX.o k hlt;obtain ⟨g1,g2⟩:=HG.o.at k;have HC:=Zz (fun w=>bad_calls (at3 x k) g1 g2 w);generalize at3 x k = xk at *;go_wp2_with fail;refine (HC.o _).mono ?_;rintro e w2 ⟨rfl,rfl⟩;go_wp2;go_roundw
   case rel=>exact ⟨k + 1,by go_num,by omega,trivial⟩
   case measure=>simp [intOf];omega
  ·
   have hd:decide ((k:Int) < 3) = false:=dF (by omega);obtain rfl:k = 3:=by omega
   go_wp2;go_ret;exact ⟨rfl,rfl⟩
theorem contains_calls (x:Ids) (hg:Good x) (g o c:Nat) (w:World) (hx:I3 w g o x) :
  Calls Tryz.prog 138 #[.slice (some ⟨g,o,none⟩) 3 c,badV] w fun e w'=>e = .returned (.bool false)/\w = w':=by
 have HC:=Zz (fun w hx=>index_calls x hg g o c w hx);unfold badV at *;have HX:=Zz hx;go_enter func138,ntmps138;go_wp2_with fail;refine (HC.o _ HX.o).mono ?_;rintro e w2 ⟨rfl,rfl⟩;go_wp2;go_ret;exact ⟨rfl,rfl⟩
end RingW
namespace RingW
open Go.RowKit Go.Lib B Rd OrdG StoreW SortP IdsCmp Clones
theorem ids_cells {w:World} {ok:Nat -> Prop} {l:List Ids} {A:Option Addr} {c:Nat} (h:idsK.sl.M w ok l [.slice A l.length c]) (hp:0 < l.length) :
  ∃ b off,A = some ⟨b,off,none⟩/\ok b/\b < w.heap.size/\∀ i (hi:i < l.length),I3 w b (off + i * 3) l[i]:=by
 obtain ⟨A',c',he,hlc,_,hA,hrow⟩:=h;obtain ⟨rfl,rfl⟩:A = A'/\c = c':=by simpa using he
 obtain ⟨b,off,hAe,hok,hb,hcells⟩:=Kd.row_addr hrow hp;refine ⟨b,off,hAe,hok,hb,fun i hi=>?_⟩;obtain ⟨cs,⟨hcs,_⟩,hcell⟩:=hcells i hi;subst hcs;exact I3.of hcell
theorem I3.three {w:World} {g o:Nat} {x:Ids} (h:I3 w g o x):w.cell? ⟨g,o,none⟩ = some (.int .i64 (x.a:Nat))/\w.cell? ⟨g,o + 1,none⟩ = some (.int .i64 (x.b:Nat))/\w.cell? ⟨g,o + 2,none⟩ = some (.int .i64 (x.c:Nat)):=⟨h 0 (by decide),h 1 (by decide),h 2 (by decide)⟩
structure RS (w wr:World) (B g:Nat) (v:Value) (I:List Ids) (c:Nat):Prop where
 ge:w.heap.size <= g
 lt:g < B
 hB:B <= wr.heap.size
 bel:Below w.heap.size w wr
 cols:∀ j,j < c -> ∃ h,wr.cell? ⟨g,j,none⟩ = some (.pointer (some ⟨h,0,none⟩))/\WaveAt wr (fun k=>g < k/\k < B) h (I.map fun x=>at3 x j)
 rest:∀ j,j < 3 -> ∃ u,wr.cell? ⟨g,j,none⟩ = some u
 row:wr.cell? ⟨g,3,none⟩ = some v
 ids:idsK.sl.M wr (fun k=>w.heap.size <= k/\k ≠ g/\k < B) I [v]
 free:∀ j,wr.frozen? ⟨g,j,none⟩ = false
theorem RS.below {w wr w1:World} {B g c:Nat} {v:Value} {I:List Ids} (h:RS w wr B g v I c) (hb:Below B wr w1):RS w w1 B g v I c:=by
 have hc:∀ {o u},wr.cell? ⟨g,o,none⟩ = some u -> w1.cell? ⟨g,o,none⟩ = some u:=fun {o u} hu=>(hb.cell (p:=⟨g,o,none⟩) h.lt).trans hu
 have hge:=h.ge;have hlt:=h.lt;exact ⟨h.ge,h.lt,Zh h.hB hb.size,h.bel.trans (hb.mono (by omega)),fun j hj=>by obtain ⟨p,hp,hw⟩:=h.cols j hj;exact ⟨p,hc hp,hw.move (fun k hk _=>hb.block k hk.2)⟩,fun j hj=>by obtain ⟨u,hu⟩:=h.rest j hj;exact ⟨u,hc hu⟩,hc h.row,idsK.sl.move (fun k hk _=>hb.block k hk.2.2) h.ids,fun j=>(hb.frozen (p:=⟨g,j,none⟩) h.lt).trans (h.free j)⟩
theorem RS.up {w wr:World} {B B' g c:Nat} {v:Value} {I:List Ids} (h:RS w wr B g v I c) (h1:B <= B') (h2:B' <= wr.heap.size):RS w wr B' g v I c:=
 ⟨h.ge,Nat.lt_of_lt_of_le h.lt h1,h2,h.bel,fun j hj=>by obtain ⟨p,hp,hw⟩:=h.cols j hj;exact ⟨p,hp,hw.mono (fun k hk _=>⟨hk.1,Nat.lt_of_lt_of_le hk.2 h1⟩)⟩,h.rest,h.row,idsK.sl.mono (fun k hk _=>⟨hk.1,hk.2.1,Nat.lt_of_lt_of_le hk.2.2 h1⟩) h.ids,h.free⟩
theorem RS.put {w wr:World} {B g c p:Nat} {v:Value} {I:List Ids} (h:RS w wr B g v I c) (hc:c < 3) (hw:WaveAt wr (fun k=>g < k/\k < B) p (I.map fun x=>at3 x c)):RS w (wr.setCell ⟨g,c,none⟩ (.pointer (some ⟨p,0,none⟩))) B g v I (c + 1):=by
 have hm:∀ k,k ≠ g -> k < wr.heap.size -> (wr.setCell ⟨g,c,none⟩ (.pointer (some ⟨p,0,none⟩))).heap[k]? = wr.heap[k]?:=fun k hk _=>Below.heap_setCell _ _ _ _ (fun e=>hk e)
 obtain ⟨u0,hu0⟩:=h.rest c hc;have hsz:=h.hB;refine ⟨h.ge,h.lt,by simpa using hsz,bel_set h.bel h.ge _,fun j hj=>?_,fun j hj=>?_,?_,idsK.sl.move (fun k hk hlt=>hm k hk.2.1 hlt) h.ids,fun j=>by rw [World.frozen?_setCell];exact h.free j⟩
 ·
  by_cases e:j = c
  ·
   subst e;exact ⟨p,World.cell?_setCell_same _ _ _ hu0,hw.move (fun k hk hlt=>hm k (by have:=hk.1;omega) hlt)⟩
  ·
   obtain ⟨q,hq,hqw⟩:=h.cols j (by omega);exact ⟨q,(Zo _ _ _ _ (by simp;try omega)).trans hq,hqw.move (fun k hk hlt=>hm k (by have:=hk.1;omega) hlt)⟩
 ·
  by_cases e:j = c
  ·
   subst e;exact ⟨_,World.cell?_setCell_same _ _ _ hu0⟩
  ·
   obtain ⟨u,hu⟩:=h.rest j hj;exact ⟨u,(Zo _ _ _ _ (by simp;try omega)).trans hu⟩
 ·
  exact (Zo _ _ _ _ (by simp;try omega)).trans h.row
theorem RS.done {w wr:World} {B g:Nat} {A:Option Addr} {c:Nat} {I:List Ids} (h:RS w wr B g (.slice A I.length c) I 3):RingAt wr (fun k=>w.heap.size <= k) g I:=
 ⟨h.ge,fun j hj=>by obtain ⟨p,hp,hpw⟩:=h.cols j hj;exact ⟨p,hp,hpw.mono (fun k hk _=>by have:=h.ge;have:=hk.1;omega)⟩,A,c,h.row,idsK.sl.mono (fun k hk _=>hk.1) h.ids⟩
theorem RS.new {w w3:World} {A:Option Addr} {c:Nat} {I:List Ids} (hb:Below w.heap.size w w3) (hI:idsK.sl.M w3 (fun k=>w.heap.size <= k) I [.slice A I.length c]) :
  RS w (w3.alloc (.cells #[.pointer none,.pointer none,.pointer none,.slice A I.length c] 103)) (w3.heap.size + 1) w3.heap.size (.slice A I.length c) I 0:=by
 have hs:(w3.alloc (.cells #[.pointer none,.pointer none,.pointer none,.slice A I.length c] 103)).heap.size = w3.heap.size + 1:=by simp
 have hc:∀ {o:Nat} {u:Value},#[Value.pointer none,.pointer none,.pointer none,.slice A I.length c][o]? = some u -> (w3.alloc (.cells #[.pointer none,.pointer none,.pointer none,.slice A I.length c] 103)).cell? ⟨w3.heap.size,o,none⟩ = some u:=fun {o u} hu=>by
  rw [World.cell?,Kd.heap_new];exact hu
 have hb1:Below w3.heap.size w3 (w3.alloc (.cells #[.pointer none,.pointer none,.pointer none,.slice A I.length c] 103)):=bel_alloc (bR _ _) _;refine ⟨hb.size,by omega,by omega,bel_alloc hb _,fun j hj=>by omega,fun j hj=>?_,hc rfl,?_,fun j=>?_⟩
 ·
  match j,hj with
  | 0,_=>exact ⟨_,hc rfl⟩
  | 1,_=>exact ⟨_,hc rfl⟩
  | 2,_=>exact ⟨_,hc rfl⟩
 ·
  have h1:idsK.sl.M w3 (fun k=>w.heap.size <= k/\k < w3.heap.size) I [.slice A I.length c]:=idsK.sl.mono (fun k hk hlt=>⟨hk,hlt⟩) hI;have h2:=Kd.M_below h1 hb1;exact idsK.sl.mono (fun k hk _=>⟨hk.1,by have:=hk.2;omega,by have:=hk.2;omega⟩) h2
 ·
  unfold World.frozen?;dsimp only;rw [Kd.heap_new]
  try rfl
def colN (I:List Ids) (c i:Nat):List Int:=natZ ((I.take i).map fun x=>at3 x c)
theorem colN_snoc (I:List Ids) (c i:Nat) (h:i < I.length):colN I c i ++ [((at3 I[i] c:Nat):Int)] = colN I c (i + 1):=by
 unfold colN natZ;rw [Zt h,List.map_append,List.map_append]
 try rfl
theorem colN_len (I:List Ids) (c i:Nat) (h:i <= I.length):(colN I c i).length = i:=by
 unfold colN natZ;simp;omega
theorem ring_calls (I:List Ids) (hl:I.length <= 100) (hg:∀ x ∈ I,Good x) (hr:I.Pairwise ltI) (A:Option Addr) (c:Nat) (w:World) (HL:idsK.sl.M w (fun k=>k < w.heap.size) I [.slice A I.length c]) :
  Calls Tryz.prog 94 #[.slice A I.length c] w fun e w'=>(∃ g,e = .returned (.tuple #[.pointer (some ⟨g,0,none⟩),.int .i64 0])/\RingAt w' (fun k=>w.heap.size <= k) g I)/\Below w.heap.size w w':=by
 have HRow:=Zz (fun hp=>ids_cells HL hp);have HM:=Zz HL;have HG:=Zz hg;have HR:=Zz hr;have hbig:¬ (100:Int) < (I.length:Int):=by omega
 have dbig:decide ((100:Int) < (I.length:Int)) = false:=dF hbig;clear HL hg hr;go_enter func94,ntmps94;go_wp2;go_loopw [17] (fun vi wr=>∃ i:Nat,vi = .int .i64 i/\i <= I.length/\Hid (Below w.heap.size w wr)) (fun vi _=>I.length - (intOf vi).toNat)
 case atStart=>exact ⟨0,rfl,by omega,Zz (bR _ _)⟩
 case round =>
  obtain ⟨i,rfl,hi,HB⟩:=hrel;by_cases hlt:i < I.length
  ·
   have hd:decide (i < I.length) = true:=dT hlt;have ik:(i:Int) < (I.length:Int):=by omega
   obtain ⟨b,off,rfl,hbs,_,hcells⟩:=HRow.o (by omega);obtain ⟨x,hx⟩:∃ x,x = I[i]:=⟨_,rfl⟩;have hcx:=(hcells i hlt).below HB.o;rw [<- hx] at hcx;obtain ⟨x0,x1,x2⟩:=I3.three hcx;have hgx:Good x:=by rw [hx];exact HG.o _ (Zm hlt)
   have hnx:=I3.new wr x;have hbx:Below wr.heap.size wr (wr.alloc (.cells (idsL x).toArray 40)):=bel_alloc (bR _ _) _;obtain ⟨w0,hw0⟩:∃ w0,w0 = wr.alloc (.cells (idsL x).toArray 40):=⟨_,rfl⟩;rw [<- hw0] at hnx hbx;have HCon:=Zz (fun (p:QT.Bel w0) c=>(contains_calls x hgx wr.heap.size 0 c p.w (hnx.below p.bel)).mono (fun e w' (h:e = .returned (.bool false)/\p.w = w')=>(⟨h.1,by rw [<- h.2];exact bR _ _⟩:e = .returned (.bool false)/\Below p.w.heap.size p.w w')));have HB1:=Zz (bel_step HB.o hbx);have HW:Hid (wr.alloc (.cells (idsL x).toArray 40) = w0):=Zz hw0.symm;unfold badV at HCon;by_cases hi0:i = 0
   ·
    subst hi0;simp only [Nat.zero_mul,Nat.add_zero] at x0 x1 x2;clear hcells hcx hx hnx hbx hw0 HB;unfold idsL at HW;go_upto_region 7 with fail
    rw [HW.o];refine QT.region_all (by kernel_rfl) (by kernel_rfl) ?_
    iterate 2 (go_big_quiet_step (fail))
    go_big_quiet_step (exact QT.Bel.call _ (HCon.o _ _))
    iterate 14 (go_big_quiet_step (fail))
    refine wpQuiet_nil ?_;intro w2 hw';obtain ⟨⟨_,hb2⟩,rfl⟩:=hw';have HB2:=Zz (bel_step HB1.o hb2);go_wp2;go_roundw
    case rel=>exact ⟨1,by go_num,by omega,HB2⟩
    case measure=>simp [intOf];omega
   ·
    have hpos:0 < i:=by omega
    have d0:decide (0 < i) = true:=dT hpos;obtain ⟨y,hy⟩:∃ y,y = I[i - 1]:=⟨_,rfl⟩;obtain ⟨ip,hip⟩:∃ ip,ip = i - 1:=⟨_,rfl⟩;have hwi:IntKind.i64.wrap ((i:Int) - 1) = (ip:Int):=by rw [Zw];omega
    have jip:(ip:Int) < (I.length:Int):=by omega
    have hcy0:=(hcells ip (by omega)).below HB.o;rw [show I[ip]'(by omega) = y by rw [hy];congr 1] at hcy0;have hcy:=hcy0.below hbx;have HCmp:=Zz (fun (p:QT.Bel w0) c d=>(compare_calls y x b (off + ip * 3) wr.heap.size 0 c d p.w (hcy.below p.bel) (hnx.below p.bel)).mono (fun e w' (h:e = .returned (.int .i64 (cmpI y x))/\p.w = w')=>(⟨h.1,by rw [<- h.2];exact bR _ _⟩:e = .returned (.int .i64 (cmpI y x))/\Below p.w.heap.size p.w w')));have hneg:cmpI y x < 0:=by
     rw [cmpI_lt,hy,hx];exact List.pairwise_iff_getElem.1 HR.o (i - 1) i (by omega) hlt (by omega)
    generalize cmpI y x = v at *;have hge:decide (0 <= v) = false:=dF (by omega);clear hcells hx hnx hbx hw0 HB hy hip hcy hcy0 hcx;unfold idsL at HW;go_upto_region 7 with fail
    rw [HW.o];refine QT.region_all (by kernel_rfl) (by kernel_rfl) ?_
    iterate 2 (go_big_quiet_step (fail))
    go_big_quiet_step (exact QT.Bel.call _ (HCon.o _ _))
    iterate 10 (go_big_quiet_step (fail))
    go_big_quiet_step (exact QT.Bel.call _ (HCmp.o _ _ _))
    iterate 3 (go_big_quiet_step (fail))
    refine wpQuiet_nil ?_;intro w2 hw';obtain ⟨⟨_,hb2⟩,rfl⟩:=hw';have HB2:=Zz (bel_step HB1.o hb2);go_wp2;go_roundw
    case rel=>exact ⟨i + 1,by go_num,by omega,HB2⟩
    case measure=>simp [intOf];omega
  ·
   have hd:decide (i < I.length) = false:=dF hlt;have HBx:=Zz HB.o;clear HB;have HC:=Zz (clone_ids_calls I A c wr (idsK.sl.mono (fun _ _ _=>trivial) (Kd.M_below HM.o HBx.o)) (by omega));go_wp2_with fail;refine HC.o.mono ?_;rintro e w3 ⟨⟨v3,rfl,ho3⟩,hb3⟩;obtain ⟨A3,c3,rfl,_,_⟩:=Kd.own_slice ho3;have HRS0:=Zz (RS.new (bel_step HBx.o hb3) (own_from any_ids (Kd.own_lower HBx.o.size ho3)));clear ho3 hb3 HC;go_wp2;go_loopw [44] (fun vc wr=>∃ (j B:Nat),vc = .int .i64 j/\j <= 3/\Hid (RS w wr B w3.heap.size (.slice A3 I.length c3) I j)) (fun vc _=>3 - (intOf vc).toNat)
   case atStart=>exact ⟨0,_,rfl,by omega,HRS0⟩
   case round =>
    obtain ⟨j,B,rfl,hj,HS⟩:=hrel;clear HRS0;by_cases hj3:j < 3
    ·
     have hdj:decide ((j:Int) < 3) = true:=dT (by omega);have jj:(j:Int) < 3:=by omega
     have HS0:=Zz (HS.o.up HS.o.hB (lR _));have hsz:=lR wr.heap.size;obtain ⟨B0,hB0⟩:∃ B0,B0 = wr.heap.size:=⟨_,rfl⟩;rw [<- hB0] at HS0;have HZ0:Hid (intK.own 3 wr B0 TT (.slice none 0 0) (colN I j 0)):=Zz (Kd.own_nil _ _ _ _ _);clear HS hsz hB0;go_wp2;go_loopw [9,49] (fun v9 vi wr=>∃ (i:Nat) (u:Value),u = v9/\vi = .int .i64 i/\i <= I.length/\Hid (RS w wr B0 w3.heap.size (.slice A3 I.length c3) I j)/\Hid (intK.own 3 wr B0 TT u (colN I j i))) (fun _ vi _=>I.length - (intOf vi).toNat)
     case atStart=>exact ⟨0,_,rfl,rfl,by omega,HS0,HZ0⟩
     case round =>
      obtain ⟨i,u,rfl,rfl,hi,HS,HO⟩:=hrel;clear HS0 HZ0;by_cases hlt2:i < I.length
      ·
       have hdi:decide (i < I.length) = true:=dT hlt2;have ik:(i:Int) < (I.length:Int):=by omega
       obtain ⟨b,off,rfl,hbs,_,hcells⟩:=HRow.o (by omega);obtain ⟨x,hx⟩:∃ x,x = I[i]:=⟨_,rfl⟩;have hcx:=(hcells i hlt2).below HS.o.bel;rw [<- hx] at hcx;obtain ⟨x0,x1,x2⟩:=I3.three hcx;have hnx:=(I3.new wr x) j hj3;rw [Nat.zero_add] at hnx;have hfit:at3 x j <= 1000:=by rw [hx];exact ((HG.o _ (Zm hlt2)).at j).2
       have HCol:=Zz (colN_snoc I j i hlt2);have HCl:=Zz (colN_len I j i hi);rw [<- hx] at HCol;have hbx:Below wr.heap.size wr (wr.alloc (.cells (idsL x).toArray 40)):=bel_alloc (bR _ _) _;obtain ⟨w0,hw0⟩:∃ w0,w0 = wr.alloc (.cells (idsL x).toArray 40):=⟨_,rfl⟩;rw [<- hw0] at hnx hbx;have HW:Hid (wr.alloc (.cells (idsL x).toArray 40) = w0):=Zz hw0.symm;have HBW:Hid (Below B0 wr w0):=Zz (hbx.mono HS.o.hB);have HO0:=Zz (Kd.own_below HO.o hbx);have hB0w:B0 <= w0.heap.size:=(HS.o.below HBW.o).hB;clear hcells hx hbx hw0 hcx;obtain ⟨xj,hxj⟩:∃ xj,xj = at3 x j:=⟨_,rfl⟩;rw [<- hxj] at hnx HCol hfit;unfold idsL at HW;go_upto_region 18 with fail
       rw [HW.o];clear HW hxj x0 x1 x2;go_wp2_with (at_builtin;go_loud (refine Kd.own_app1 intK (w0:=wr) B0 (by rfl) (.tmp 53) (.tmp 57) 74 3 zero_int 8 (by rfl) underlying74 info_int rfl (by decide) u (colN I j i) (xj:Int) [.int .i64 (xj:Int)] TT (by rfl) (by rfl) HO0.o ⟨rfl,by omega,by omega⟩ HBW.o hB0w ?hl ?_);go_loud (case hl=>rw [HCl.o];omega);go_loud (intro v1 w5 ho5 hb5 _ _;have HO5:=Zz ho5;have HB5:=Zz hb5;clear ho5 hb5))
       go_wp2;go_roundw
       case rel=>exact ⟨i + 1,v1,rfl,by go_num,by omega,Zz (HS.o.below HB5.o),Zz (by rw [<- HCol.o];exact HO5.o)⟩
       case measure=>simp [intOf];omega
      ·
       have hdi:decide (i < I.length) = false:=dF hlt2;obtain rfl:i = I.length:=by omega
       obtain ⟨A4,c4,rfl,_,_⟩:=Kd.own_slice HO.o;have hlen:=colN_len I j I.length (lR _);have HWv:Hid (∀ W',Below wr.heap.size wr W' -> Calls Tryz.prog 139 #[.slice A4 (colN I j I.length).length c4,.int .i64 10] W' (fun e w6=>∃ (p:Nat) (u0:Value),e = .returned (.tuple #[.pointer (some ⟨p,0,none⟩),.int .i64 0])/\w6.cell? ⟨w3.heap.size,j,none⟩ = some u0/\w6.frozen? ⟨w3.heap.size,j,none⟩ = false/\Hid (∃ B,RS w (w6.setCell ⟨w3.heap.size,j,none⟩ (.pointer (some ⟨p,0,none⟩))) B w3.heap.size (.slice A3 I.length c3) I (j + 1)))):=Zz (fun W' hb=>by
        have hl2:(I.map fun x=>at3 x j).length = I.length:=by simp
        have ho:=Kd.own_below HO.o hb;have hM:=Kd.M_bound (Kd.own_sl (ok':=TT) ho (fun _ _=>trivial) (fun _ _=>trivial));have he:colN I j I.length = natZ (I.map fun x=>at3 x j):=by unfold colN;rw [List.take_length]
        rw [he,natZ_len] at hM |-;refine (WaveW.wave_calls (I.map fun x=>at3 x j) (by omega) (fun n hn=>?_) A4 c4 W' hM).mono ?_
        ·
         obtain ⟨x,hx,rfl⟩:=List.mem_map.1 hn;exact ((HG.o x hx).at j).2
        ·
         rintro e w6 ⟨⟨p,rfl,hwv⟩,hb6⟩;have hbs:=HS.o.hB;have h1:=hb.size;have h6:=hb6.size;have hS6:=(HS.o.below (hb.mono hbs)).below (hb6.mono (by omega));obtain ⟨u0,hu0⟩:=hS6.rest j hj3;have hlt:=HS.o.lt;exact ⟨p,u0,rfl,hu0,hS6.free j,Zz ⟨w6.heap.size,(hS6.up (by omega) (lR _)).put hj3 (hwv.mono (fun k hk hlt=>⟨by omega,hlt⟩))⟩⟩)
       rw [hlen] at HWv |-;clear hlen HO HS;go_upto_region 20 with fail
       go_region_with (go_at_call 139;refine (HWv.o _ (by repeat (first | exact bR _ _ | refine bel_drew ?_))).mono ?_;rintro e w6 ⟨p,u0,rfl,hu0,hf0,HS6⟩)
       obtain ⟨B6,hS6⟩:=HS6.o;have HS7:=Zz hS6;clear hS6 HWv;go_wp2;go_roundw
       case rel=>exact ⟨j + 1,B6,by go_num,by omega,HS7⟩
       case measure=>simp [intOf];omega
    ·
     have hdj:decide ((j:Int) < 3) = false:=dF (by omega);obtain rfl:j = 3:=by omega
     have HDone:=Zz (And.intro HS.o.done HS.o.bel);clear HS;go_wp2;go_ret2;exact ⟨⟨_,rfl,HDone.o.1⟩,HDone.o.2⟩
end RingW
namespace SortUse
open Go.RowKit Go.Lib B Rd TermPure LinesPure Tri SortP OrdG TermW Cmp StoreW IdsCmp SortT
theorem swo_terms (S:Term -> Prop):Go.Sort.SWO fun x y:{ t:Term // S t }=>decide (cmpTm x.1 y.1 < 0):=by
 have key:∀ x y:Term,decide (cmpTm x y < 0) = decide (ltTm x y):=fun x y=>by simp only [cmpTm_lt]
 refine ⟨fun x=>?_,fun x y z h1 h2=>?_,fun x y z h1 h2=>?_⟩
 ·
  rw [key,decide_eq_false_iff_not];exact List.lt_irrefl _
 ·
  rw [key,decide_eq_true_iff] at *;exact List.lt_trans h1 h2
 ·
  rw [key,decide_eq_false_iff_not] at *;unfold ltTm at *;rw [List.not_lt] at *;exact List.le_trans h2 h1
theorem enters_cmp:∀ args w,(callFunc 89 args).run Tryz.prog w = .ok (.enter 89 args) w:=enters_of func89 (by kernel_rfl) rfl
theorem enters_less:∀ args w,(callFunc 92 args).run Tryz.prog w = .ok (.enter 92 args) w:=enters_of func92 (by kernel_rfl) rfl
theorem sort_terms (l:List Term) (hs:∀ t ∈ l,SmallM t) (u:Value) (base:Nat) (ok:Nat -> Prop) (w:World) (ho:termK.own 24 w base ok u l) :
  Calls Tryz.prog 88 #[u,.func (.func 89) #[] #[]] w fun e w'=>e = .returned (.tuple #[])/\∃ l':List Term,l'.Perm l/\(l'.Pairwise fun a b=>¬ ltTm b a)/\termK.own 24 w' base ok u l'/\w.grownBy w' u.ownBlock:=by
 rcases Nat.eq_zero_or_pos l.length with h0 | hp
 ·
  obtain rfl:l = []:=Zn h0;obtain ⟨A,c,rfl,_,_⟩:=Kd.own_slice ho;refine (AnyF.slices_SortFunc_none Tryz.sortTerm A c _ w).mono ?_;rintro e w' ⟨rfl,rfl⟩;exact ⟨rfl,[],List.Perm.refl _,List.Pairwise.nil,ho,World.grownBy.refl _ _⟩
 ·
  obtain ⟨g,cap,rfl,hg,hlt,hc⟩:=Kd.own_form ho hp;refine (sorted_own (P:=Tryz.prog) (ρ:=Tryz.sortTerm_ren) (enc:=termL) (fits:=FitsW) (k:=3) (cf:=cmpTm) (f:=89) (e:=24) (l:=l) (S:=SmallM) (fun x=>rfl) (by decide) (fun t u hu=>by
   simp [termL] at hu;rcases hu with rfl | rfl | rfl <;> rfl) ⟨0,[],[]⟩ (by constructor <;> simp) enters_cmp isAgg24 sizeOf24 Tryz.sortTerm (swo_terms SmallM) (fun x y w hx hy=>termCmp_calls x y hx hy w) hs ho).mono ?_
  rintro e w' ⟨rfl,l',h1,h2,h3,h4⟩;refine ⟨rfl,l',h1,h2.imp (fun h hl=>h ((cmpTm_lt _ _).2 hl)),?_,h4⟩;rw [<- h1.length_eq];exact h3
theorem sort_ids (l:List Ids) (hr:l.Pairwise ltI) (u:Value) (base:Nat) (ok:Nat -> Prop) (w:World) (ho:idsK.own 40 w base ok u l) :
  Calls Tryz.prog 91 #[u,.func (.func 92) #[] #[]] w fun e w'=>e = .returned (.tuple #[])/\idsK.own 40 w' base ok u l/\w.grownBy w' u.ownBlock:=by
 rcases Nat.eq_zero_or_pos l.length with h0 | hp
 ·
  obtain rfl:l = []:=Zn h0;obtain ⟨A,c,rfl,_,_⟩:=Kd.own_slice ho;refine (AnyF.slices_SortFunc_none Tryz.sortIds A c _ w).mono ?_;rintro e w' ⟨rfl,rfl⟩;exact ⟨rfl,ho,World.grownBy.refl _ _⟩
 ·
  obtain ⟨g,cap,rfl,hg,hlt,hc⟩:=Kd.own_form ho hp;refine (sorted_own (P:=Tryz.prog) (ρ:=Tryz.sortIds_ren) (enc:=idsL) (fits:=FitsI) (k:=3) (cf:=cmpI) (f:=92) (e:=40) (l:=l) (S:=fun _=>True) (fun x=>rfl) (by decide) (fun t u hu=>by
   simp [idsL] at hu;rcases hu with rfl | rfl | rfl <;> rfl) ⟨0,0,0⟩ trivial enters_less isAgg40 sizeOf40 Tryz.sortIds swo_ids (fun x y w _ _=>less_calls x y w) (fun _ _=>trivial) ho).mono ?_
  rintro e w' ⟨rfl,l',h1,h2,h3,h4⟩;have he:l' = l:=by
   refine ord_ids.uniq ?_ hr (fun x=>h1.mem_iff);have hnd:l.Nodup:=hr.imp fun h e=>by rw [e] at h;exact ord_ids.irrefl _ h
   have hnd':l'.Nodup:=h1.nodup_iff.2 hnd;refine (h2.and hnd').imp (fun {a b} hh=>?_);obtain ⟨ha,hb⟩:=hh;rcases ord_ids.tri a b trivial trivial with h | h | h
   ·
    exact h
   ·
    exact absurd h hb
   ·
    exact absurd ((cmpI_lt b a).2 h) ha
  subst he;exact ⟨rfl,h3,h4⟩
end SortUse
namespace TermW
open Go.RowKit Go.Lib B Rd TermPure LinesPure Tri OrdG
open Go.Proofs.YtnplommdgfgboaaGreatDoor.Ref5 (termV)
theorem run_ne_term (x y:Term) (w:World):(binOp .neq 24 (termV x) (termV y)).run Tryz.prog w = .ok (.bool (!decide (x = y))) w:=by
 have e:=TriEq.eq_term' x y 9998 w;unfold termV;rw [run_neq_struct,show (10000:Nat) = 9998 + 2 from rfl,e]
 try rfl
theorem run_cutk (w:World) (g L cap k:Nat) (hk:k < L) (hc:L <= cap):(Instr.slice 31 (.slice (some ⟨g,0,none⟩) L cap) (some (.int .i64 (k:Int))) none none).run Tryz.prog w = .ok (.slice (some ⟨g,k * 3,none⟩) (L - k) (cap - k)) w:=by
 have hu:(Tryz.prog).underlying 31 = some (.slice ((Tryz.prog).elem 31)):=by
  have:=underlying31;simp [Program.elem,this]
 have hs:∀ w,(sizeOf 24).run Tryz.prog w = .ok 3 w:=sizeOf24;have he:(Tryz.prog).elem 31 = 24:=by simp [Program.elem,underlying31]
 rw [run_slice_l w _ _ L cap hu .i64 (k:Int) (by omega) (by omega),he,hs];have:¬ cap = k:=by omega
 simp [sliced,Result.andThen,this,Addr.add_lit]
theorem run_takek (w:World) (g L cap k:Nat) (hk:k <= L) (hk0:0 < L) (hc:L <= cap):(Instr.slice 31 (.slice (some ⟨g,0,none⟩) L cap) none (some (.int .i64 (k:Int))) none).run Tryz.prog w = .ok (.slice (some ⟨g,0,none⟩) k cap) w:=by
 have hu:(Tryz.prog).underlying 31 = some (.slice ((Tryz.prog).elem 31)):=by
  have:=underlying31;simp [Program.elem,this]
 have hs:∀ w,(sizeOf 24).run Tryz.prog w = .ok 3 w:=sizeOf24;have he:(Tryz.prog).elem 31 = 24:=by simp [Program.elem,underlying31]
 rw [run_slice_h w _ _ L cap hu .i64 (k:Int) (by omega) (by omega),he,hs];have:¬ cap = 0:=by omega
 simp [sliced,Result.andThen,this,Addr.add_lit]
theorem setCells_frozen (g:Nat):∀ (vs:List Value) (o:Nat) (w:World) (a:Addr),(w.setCells g o vs).frozen? a = w.frozen? a
 | [],_,_,_=>rfl
 | v :: vs,o,w,a=>by
  rw [World.setCells,setCells_frozen g vs (o + 1) _ a,World.frozen?_setCell]
theorem setCells_far (g:Nat):∀ (vs:List Value) (o:Nat) (w:World) (q:Nat),q < o -> (w.setCells g o vs).cell? ⟨g,q,none⟩ = w.cell? ⟨g,q,none⟩
 | [],_,_,_,_=>rfl
 | v :: vs,o,w,q,h=>by
  rw [World.setCells,setCells_far g vs (o + 1) _ q (by omega)]
  rw [Zo _ _ _ _ (by simp;try omega)]
theorem setCells_grown (g:Nat):∀ (vs:List Value) (o:Nat) (w:World),w.grownBy (w.setCells g o vs) (some g)
 | [],_,w=>World.grownBy.refl _ _
 | v :: vs,o,w=>by
  rw [World.setCells]
  exact (grown_setCell w ⟨g,o,none⟩ v).trans (setCells_grown g vs (o + 1) _)
def zeroV:Value:=.agg #[.int .i64 0,.string ⟨#[]⟩,.string ⟨#[]⟩]
theorem zeroCells_len (n:Nat):(Builtin.zeroCells zeroV.cells n).toList.length = n * 3:=by
 simp [Builtin.zeroCells,zeroV,Value.cells]
theorem zeroCells_one (n:Nat):∀ v ∈ (Builtin.zeroCells zeroV.cells n).toList,v.oneCell' = true:=by
 intro v hv;have key:∀ k:Nat,k < 3 -> ((zeroV.cells)[k]!).oneCell' = true:=by decide
 simp [Builtin.zeroCells] at hv;obtain ⟨i,hi,rfl⟩:=hv;exact key _ (Nat.mod_lt _ (by decide))
theorem run_clear (w:World) (ty:TypeId) (b o n c:Nat) (hn:0 < n) (hc:∀ j,j < n * 3 -> (w.cell? ⟨b,o + j,none⟩).isSome = true) (hf:∀ j,j < n * 3 -> w.frozen? ⟨b,o + j,none⟩ = false) :
  (Builtin.clear_ #[31] ty #[.slice (some ⟨b,o,none⟩) n c]).run Tryz.prog w = .ok (.tuple #[]) (w.setCells b o (Builtin.zeroCells zeroV.cells n).toList):=by
 have hv:∀ w,(zeroValue 24).run Tryz.prog w = .ok zeroV w:=zeroValue24;have hst:=run_storeCells_cells (P:=Tryz.prog) b o (Builtin.zeroCells zeroV.cells n).toList 0 w (by rw [zeroCells_len];simpa using hc) (by rw [zeroCells_len];simpa using hf) (zeroCells_one n);simp only [Nat.add_zero] at hst;obtain ⟨m,rfl⟩:∃ m,n = m + 1:=⟨n - 1,by omega⟩;simp only [Builtin.clear_];simp [run_underlying underlying31,hv,hst]
theorem compact_calls (R:List Term) (L cap:Nat) (hL:R.length = L) (hc:L <= cap) (hLs:L <= 70368744177664) (hcM:cap <= maxLen) (g:Nat) (W w:World) (hS:SR W g R w) :
  Calls Tryz.prog 90 #[.slice (some ⟨g,0,none⟩) L cap] w fun e w'=>e = .returned (.slice (some ⟨g,0,none⟩) (compactE R).length cap)/\SR W g (compactE R) w':=by
 have HL:Hid (R.length = L):=Zz hL;have HS0:=Zz hS;by_cases hL2:L < 2
 ·
  have hd:decide (L < 2) = true:=dT hL2;have HE:Hid (compactE R = R):=Zz (by
   rcases R with _ | ⟨a,_ | ⟨b,R⟩⟩
   ·
    rfl
   ·
    rfl
   ·
    simp at hL;omega)
  rw [HE.o];have HV:Hid (SR W g R w):=Zz hS;clear hS hL HE;go_enter func90,ntmps90;go_wp2;go_ret;exact ⟨by rw [HL.o];rfl,HV.o⟩
 have hd:decide (L < 2) = false:=dF hL2;clear hS hL;go_enter func90,ntmps90;go_wp2;go_loopw [3] (fun vk wr=>∃ k:Nat,vk = .int .i64 k/\1 <= k/\k <= L/\Hid ((∀ i (h:i < R.length),1 <= i -> i < k -> R[i] ≠ (R[i - 1]'(by omega)))/\SR W g R wr)) (fun vk _=>L - (intOf vk).toNat)
 case atStart=>exact ⟨1,by go_num,by omega,by omega,Zz ⟨fun i h h1 h2=>by omega,HS0.o⟩⟩
 case round =>
  obtain ⟨k,rfl,hk1,hkL,HR⟩:=hrel;clear HS0;by_cases hlt:k < L
  ·
   have hdk:decide (k < L) = true:=dT hlt;obtain ⟨kp,hkp⟩:∃ kp,kp = k - 1:=⟨_,rfl⟩;have hwk:IntKind.i64.wrap ((k:Int) - 1) = (kp:Int):=by rw [Zw];omega
   have jk:(k:Int) < (L:Int):=by omega
   have jkp:(kp:Int) < (L:Int):=by omega
   obtain ⟨x,hx⟩:∃ x,x = R[k]'(by rw [HL.o];exact hlt):=⟨_,rfl⟩;obtain ⟨y,hy⟩:∃ y,y = R[k - 1]'(by rw [HL.o];omega):=⟨_,rfl⟩;have hcx:=HR.o.2.cells k (by rw [HL.o];exact hlt);have hcy:=HR.o.2.cells kp (by rw [HL.o];omega);rw [show R[kp]'(by rw [HL.o];omega) = y by rw [hy];congr 1] at hcy;rw [<- hx] at hcx;have HS1:=Zz HR.o.2;by_cases hv:x = y
   ·
    have HV:Hid (decide (x = y) = true):=Zz (dT hv);have HI0:Hid (CI R R L k (k + 1)):=Zz (CI.start HL.o hk1 hlt HR.o.1 (by rw [<- hx,<- hy];exact hv));clear hv hx hy hkp;obtain ⟨n,hn⟩:∃ n,n = L - k:=⟨_,rfl⟩;obtain ⟨c2,hc2⟩:∃ c2,c2 = cap - k:=⟨_,rfl⟩;have HSl:∀ w,(Instr.slice 31 (.slice (some ⟨g,0,none⟩) L cap) (some (.int .i64 (k:Int))) none none).run Tryz.prog w = .ok (.slice (some ⟨g,k * 3,none⟩) n c2) w:=fun w=>by rw [hn,hc2];exact run_cutk w g L cap k hlt hc
    have HN:=Zz hn;have hnL:k + n <= L:=by omega
    clear hc2 hn HR;have heq:∀ w,(binOp .eql 24 (termV x) (termV y)).run Tryz.prog w = .ok (.bool true) w:=fun w=>by
     have:=TriEq.run_eq_term x y w;rw [HV.o] at this;exact this
    obtain ⟨xk,xt,xe⟩:=x;obtain ⟨yk,yt,ye⟩:=y;obtain ⟨x0,x1,x2⟩:=hcx;obtain ⟨y0,y1,y2⟩:=hcy;unfold termV at heq;dsimp only at x0 x1 x2 y0 y1 y2 heq;go_upto_region 6 with fail
    go_quiet (fail);clear x0 x1 x2 y0 y1 y2 heq;have HS2:=Zz (HS1.o.drewN nq);clear HS1;have hk1L:k + 1 <= L:=by omega
    go_wp2;go_loopw [3,5] (fun vk vm wx=>∃ (k1 m:Nat) (l':List Term),vk = .int .i64 k1/\vm = .int .i64 m/\k <= k1/\1 <= m/\k1 < k + m/\k + m <= L/\Hid (CI R l' L k1 (k + m)/\SR W g l' wx)) (fun _ vm _=>L - (intOf vm).toNat)
    case atStart=>exact ⟨k,1,R,rfl,by go_num,by omega,by omega,by omega,by omega,Zz ⟨HI0.o,HS2.o⟩⟩
    case round =>
     obtain ⟨k1,m,l',rfl,rfl,hkk,hm1,hkm,hmL,HR⟩:=hrel;clear HI0 HS2 HV;by_cases hlt2:m < n
     ·
      have hd2:decide (m < n) = true:=dT hlt2;have jm:(m:Int) < (n:Int):=by omega
      obtain ⟨mp,hmp⟩:∃ mp,mp = m - 1:=⟨_,rfl⟩;have hwm:IntKind.i64.wrap ((m:Int) - 1) = (mp:Int):=by rw [Zw];omega
      have jmp:(mp:Int) < (n:Int):=by omega
      have hjL:k + m < L:=by have:=HN.o;omega
      obtain ⟨x,hx⟩:∃ x,x = R[k + m]'(by rw [HL.o];exact hjL):=⟨_,rfl⟩;obtain ⟨y,hy⟩:∃ y,y = R[k + m - 1]'(by rw [HL.o];omega):=⟨_,rfl⟩;have hcx:C3 wr g (k * 3 + m * 3) x:=by
       rw [<- Nat.add_mul];exact HR.o.2.at (by rw [HR.o.1.tail (k + m) (by omega),hx];exact Zg _)
      have hcy:C3 wr g (k * 3 + mp * 3) y:=by
       rw [<- Nat.add_mul,show k + mp = k + m - 1 by omega];exact HR.o.2.at (by rw [HR.o.1.tail (k + m - 1) (by omega),hy];exact Zg _)
      have HS1:=Zz HR.o.2;by_cases hv:x = y
      ·
       have HV:Hid ((!decide (x = y)) = false):=Zz (by rw [dT hv];rfl);have HI1:Hid (CI R l' L k1 (k + (m + 1))):=Zz (HR.o.1.same HL.o (by omega) hjL (by rw [<- hx,<- hy];exact hv));clear hv hx hy hmp HR;have heq:∀ w,(binOp .neq 24 (termV x) (termV y)).run Tryz.prog w = .ok (.bool false) w:=fun w=>by
        have:=run_ne_term x y w;rw [HV.o] at this;exact this
       obtain ⟨xk,xt,xe⟩:=x;obtain ⟨yk,yt,ye⟩:=y;obtain ⟨x0,x1,x2⟩:=hcx;obtain ⟨y0,y1,y2⟩:=hcy;unfold termV at heq;dsimp only at x0 x1 x2 y0 y1 y2 heq;go_upto_region 11 with fail
       go_quiet (fail);clear x0 x1 x2 y0 y1 y2 heq HV;have HS2:=Zz (HS1.o.drewN nq);clear HS1;go_wp2;go_roundw
       case rel=>exact ⟨k1,m + 1,l',rfl,by go_num,by omega,by omega,by omega,by omega,Zz ⟨HI1.o,HS2.o⟩⟩
       case measure=>simp [intOf];omega
      ·
       have HV:Hid ((!decide (x = y)) = true):=Zz (by rw [dF hv];rfl);have HI1:Hid (CI R (l'.set k1 x) L (k1 + 1) (k + (m + 1))):=Zz (by
        have:=HR.o.1.put HL.o (by omega) hjL (by omega) (by rw [<- hx,<- hy];exact hv);rw [<- hx] at this;exact this)
       have jk1:(k1:Int) < (L:Int):=by omega
       have hk1l:k1 < l'.length:=by rw [HR.o.1.len];omega
       have HPut:Hid (∀ w2,SR W g l' w2 -> SR W g (l'.set k1 x) (put3 w2 g (k1 * 3) x)):=Zz (fun w2 h=>h.set k1 hk1l x);have HFree:Hid (∀ w2,SR W g l' w2 -> (∀ d,d < 3 -> w2.frozen? ⟨g,k1 * 3 + d,none⟩ = false)):=Zz (fun w2 hS2 d hd=>hS2.free _ (by omega));have HOld:Hid (∃ z,∀ w2,SR W g l' w2 -> C3 w2 g (k1 * 3) z):=Zz ⟨l'[k1],fun w2 h=>h.cells k1 _⟩;have HXc:=Zz hcx;clear hv hx hy hmp HR hk1l;have heq:∀ w,(binOp .neq 24 (termV x) (termV y)).run Tryz.prog w = .ok (.bool true) w:=fun w=>by
        have:=run_ne_term x y w;rw [HV.o] at this;exact this
       obtain ⟨xk,xt,xe⟩:=x;obtain ⟨yk,yt,ye⟩:=y;obtain ⟨x0,x1,x2⟩:=hcx;obtain ⟨y0,y1,y2⟩:=hcy;unfold termV at heq;dsimp only at x0 x1 x2 y0 y1 y2 heq;go_upto_region 11 with fail
       go_quiet (fail);clear y0 y1 y2 heq HV x0 x1 x2;have HS2:=Zz (HS1.o.drewN nq);have HSW:=Zz (HPut.o _ HS2.o);unfold put3 at HSW;dsimp only at HSW;have f0:=HFree.o _ HS2.o 0 (by omega);have f1:=HFree.o _ HS2.o 1 (by omega);have f2:=HFree.o _ HS2.o 2 (by omega);obtain ⟨z,hz⟩:=HOld.o;obtain ⟨z0,z1,z2⟩:=hz _ HS2.o;have hcw:C3 (wr.drewN nq) g (k * 3 + m * 3) ⟨xk,xt,xe⟩:=HXc.o.moved rfl;obtain ⟨a0,a1,a2⟩:=hcw;simp only [Nat.add_zero] at f0;clear hz HXc HS1;dsimp only at a0 a1 a2;generalize wr.drewN nq = w2 at *;go_wp2;go_roundw
       case rel=>exact ⟨k1 + 1,m + 1,_,by go_num,by go_num,by omega,by omega,by omega,by omega,Zz ⟨HI1.o,HSW.o⟩⟩
       case measure=>simp [intOf];omega
     ·
      have hd2:decide (m < n) = false:=dF hlt2;have hk1L2:k1 < L:=by omega
      have HEnd:Hid (compactE R = l'.take k1):=Zz (by
       have:=HR.o.1.head;rw [List.take_of_length_le (l:=R) (by rw [HL.o];have:=HN.o;omega)] at this;exact this.symm)
      obtain ⟨n2,hn2⟩:∃ n2,n2 = L - k1:=⟨_,rfl⟩;obtain ⟨c3,hc3⟩:∃ c3,c3 = cap - k1:=⟨_,rfl⟩;have HSl2:∀ w,(Instr.slice 31 (.slice (some ⟨g,0,none⟩) L cap) (some (.int .i64 (k1:Int))) none none).run Tryz.prog w = .ok (.slice (some ⟨g,k1 * 3,none⟩) n2 c3) w:=fun w=>by rw [hn2,hc3];exact run_cutk w g L cap k1 hk1L2 hc
      have HSl3:∀ w,(Instr.slice 31 (.slice (some ⟨g,0,none⟩) L cap) none (some (.int .i64 (k1:Int))) none).run Tryz.prog w = .ok (.slice (some ⟨g,0,none⟩) k1 cap) w:=fun w=>run_takek w g L cap k1 (by omega) (by omega) hc
      have HLl:l'.length = L:=HR.o.1.len;obtain ⟨Z,hZ⟩:∃ Z,Z = (Builtin.zeroCells zeroV.cells n2).toList:=⟨_,rfl⟩;have HClr:∀ ty,(Builtin.clear_ #[31] ty #[.slice (some ⟨g,k1 * 3,none⟩) n2 c3]).run Tryz.prog wr = .ok (.tuple #[]) (wr.setCells g (k1 * 3) Z):=fun ty=>by
       rw [hZ];refine run_clear wr ty g (k1 * 3) n2 c3 (by omega) (fun j hj=>?_) (fun j hj=>?_)
       ·
        obtain ⟨q,d,hd,he⟩:∃ q d,d < 3/\k1 * 3 + j = q * 3 + d:=⟨(k1 * 3 + j) / 3,(k1 * 3 + j) % 3,Nat.mod_lt _ (by omega),by omega⟩;rw [he];have hq:q < l'.length:=by omega
        obtain ⟨c0,c1,c2⟩:=HR.o.2.cells q hq;rcases (by omega:d = 0 \/ d = 1 \/ d = 2) with h | h | h <;> subst h
        ·
         rw [show q * 3 + 0 = q * 3 from rfl,c0];rfl
        ·
         rw [c1];rfl
        ·
         rw [c2];rfl
       ·
        exact HR.o.2.free _ (by omega)
      have HV:Hid ((compactE R).length = k1/\SR W g (compactE R) (wr.setCells g (k1 * 3) Z)):=Zz (by
       have hlen:(compactE R).length = k1:=by rw [HEnd.o,Zi];omega
       refine ⟨hlen,HR.o.2.grown.trans (setCells_grown g Z _ _),fun i hi=>?_,fun j hj=>by rw [setCells_frozen];exact HR.o.2.free j (by omega)⟩;have hi2:i < l'.length:=by omega
       have hcell:=HR.o.2.cells i hi2;have he:(compactE R)[i] = l'[i]:=by
        have:∀ (A B:List Term) (e:A = B) (h:i < A.length) (h':i < B.length),A[i] = B[i]:=by rintro A B rfl h h';rfl
        rw [this _ _ HEnd.o hi (by rw [<- HEnd.o];exact hi),List.getElem_take]
       rw [he];obtain ⟨c0,c1,c2⟩:=hcell;have far:∀ o,o < k1 * 3 -> (wr.setCells g (k1 * 3) Z).cell? ⟨g,o,none⟩ = wr.cell? ⟨g,o,none⟩:=fun o ho=>setCells_far g Z (k1 * 3) wr o ho
       exact ⟨(far _ (by omega)).trans c0,(far _ (by omega)).trans c1,(far _ (by omega)).trans c2⟩)
      clear hn2 hc3 hZ HEnd HR HLl;go_wp2;go_ret;exact ⟨by rw [HV.o.1];rfl,HV.o.2⟩
   ·
    have HV:Hid (decide (x = y) = false):=Zz (dF hv);have HI0:Hid (∀ i (h:i < R.length),1 <= i -> i < k + 1 -> R[i] ≠ (R[i - 1]'(by omega))):=Zz (fun i h h1 h2=>by
     by_cases e:i = k
     ·
      subst e;rw [<- hx,<- hy];exact hv
     ·
      exact HR.o.1 i h h1 (by omega))
    clear hv hx hy hkp HR;have heq:∀ w,(binOp .eql 24 (termV x) (termV y)).run Tryz.prog w = .ok (.bool false) w:=fun w=>by
     have:=TriEq.run_eq_term x y w;rw [HV.o] at this;exact this
    obtain ⟨xk,xt,xe⟩:=x;obtain ⟨yk,yt,ye⟩:=y;obtain ⟨x0,x1,x2⟩:=hcx;obtain ⟨y0,y1,y2⟩:=hcy;unfold termV at heq;dsimp only at x0 x1 x2 y0 y1 y2 heq;go_upto_region 6 with fail
    go_quiet (fail);clear x0 x1 x2 y0 y1 y2 heq HV;have HS2:=Zz (HS1.o.drewN nq);clear HS1;go_wp2;go_roundw
    case rel=>exact ⟨k + 1,by go_num,by omega,by omega,Zz ⟨HI0.o,HS2.o⟩⟩
    case measure=>simp [intOf];omega
  ·
   have hdk:decide (k < L) = false:=dF hlt;have HV:Hid ((compactE R).length = L/\SR W g (compactE R) wr):=Zz (by
    have he:compactE R = R:=by
     have h1:=compE_same R L (by omega) (by rw [HL.o];exact lR _) (fun i hi h1 h2=>HR.o.1 i hi h1 (by omega));rw [List.take_of_length_le (by rw [HL.o];exact lR _)] at h1;exact h1
    rw [he];exact ⟨HL.o,HR.o.2⟩)
   clear HR;go_wp2;go_ret;exact ⟨by rw [HV.o.1];rfl,HV.o.2⟩
end TermW
namespace Search
open Go.RowKit Go.Lib B Rd TermPure LinesPure Tri SortP OrdG TermW Cmp
theorem id_calls (R:List Term) (t:Term) (hR:R.Pairwise ltTm) (hs:∀ x ∈ R,SmallM x) (hst:SmallM t) (g:Nat) (A:Option Addr) (c:Nat) (w:World) (hg:w.cell? ⟨g,1,none⟩ = some (.slice A R.length c)) (HL:termK.sl.M w (fun k=>k < w.heap.size) R [.slice A R.length c]) (hb:R.length <= 1000000) :
  Calls Tryz.prog 18 #[.pointer (some ⟨g,0,none⟩),Ref5.termV t] w fun e w'=>e = .returned (.int .i64 (idOf R t:Nat))/\Below w.heap.size w w':=by
 have b0:Below w.heap.size w (w.alloc (.cells (termL t).toArray 24)):=bel_alloc (bR _ _) _;have HM0:=Kd.M_bound (Kd.M_below HL b0);have HC:=Zz (fun w2 (h:Below (w.alloc (.cells (termL t).toArray 24)).heap.size (w.alloc (.cells (termL t).toArray 24)) w2)=>place_calls R t hR hs hst A c w2 (Kd.M_bound (Kd.M_below HM0 h)) hb);have HB0:=Zz b0;have hcy:=C3.new w t;have hg1:(w.alloc (.cells (termL t).toArray 24)).cell? ⟨g,1,none⟩ = some (.slice A R.length c):=(b0.cell (p:=⟨g,1,none⟩) (cell_lt hg)).trans hg;have HRow:=Zz (fun hp=>term_cells HM0 hp);have HP:=Zz (id_pure (t:=t) hR);clear HL hs hst hR b0 HM0 hg;obtain ⟨w0,hw0⟩:∃ w0,w0 = w.alloc (.cells (termL t).toArray 24):=⟨_,rfl⟩;have hgp:=fun p:QT.Bel w0=>p.cell (b:=g) (o:=1) (v:=.slice A R.length c) (by rw [hw0];exact hg1)
 have hcp:=fun p:QT.Bel w0=>C3.bel (w:=w0) (g:=w.heap.size) (o:=0) (t:=t) (by rw [hw0];exact hcy) p
 have y0:=fun p=>(hcp p).c0
 have y1:=fun p=>(hcp p).c1
 have y2:=fun p=>(hcp p).c2
 have HCP:=Zz (fun p:QT.Bel w0=>HC.o p.w (by rw [<- hw0];exact p.bel));have HCX:=Zz hcy;rw [<- hw0] at HRow HB0 HCX;clear hcp HC hg1 hcy;simp only [Nat.zero_add] at y1 y2;obtain ⟨i,hi⟩:∃ i,i = posOf R t:=⟨_,rfl⟩;obtain ⟨fo,hfo⟩:∃ fo,fo = foundAt R t:=⟨_,rfl⟩;rw [<- hi,<- hfo] at HCP HP;clear hi hfo;have HNe:=Zz (fun (x:Term) w=>run_ne_term x t w);have HWX:Hid (w.alloc (.cells #[.int .i64 t.kind,.string (mkS t.text),.string (mkS t.extra)] 24) = w0):=Zz hw0.symm;clear hw0;unfold Ref5.termV at *;go_enter func18,ntmps18;go_upto_region 3 with fail
 rw [HWX.o];refine QT.region_all (by kernel_rfl) (by kernel_rfl) ?_
 iterate 5 (go_big_quiet_step (fail))
 go_big_quiet_step (exact QT.Bel.call _ (HCP.o _))
 iterate 5 (go_big_quiet_step (fail))
 refine wpQuiet_nil ?_;intro w2 hw';obtain ⟨⟨_,hb2⟩,rfl⟩:=hw';have hg3:=hgp ⟨w2,hb2⟩;have a0:=y0 ⟨w2,hb2⟩;have a1:=y1 ⟨w2,hb2⟩;have a2:=y2 ⟨w2,hb2⟩;dsimp only at hg3 a0 a1 a2;have HB3:=Zz (bel_step HB0.o hb2);have HR3:=Zz (fun hp=>by obtain ⟨b,off,h1,h2,h3,h4⟩:=HRow.o hp;exact (⟨b,off,h1,fun i hi=>(h4 i hi).below hb2⟩:∃ b off,A = some ⟨b,off,none⟩/\∀ i (hi:i < R.length),C3 w2 b (off + i * 3) R[i]));clear hgp y0 y1 y2 hb2 HCP HRow HCX HB0;cases fo
 ·
  have HV:=Zz (HP.o.1 rfl);clear HP;go_upto_region 4 with fail
  go_quiet (fail);go_wp2;go_ret;exact ⟨by rw [HV.o];rfl,⟨HB3.o.os,HB3.o.tape,HB3.o.output,HB3.o.size,HB3.o.block⟩⟩
 ·
  obtain ⟨hil,hv⟩:=HP.o.2 rfl;obtain ⟨b,off,rfl,hcells⟩:=HR3.o (by omega);have hx:=hcells i hil;obtain ⟨x,hxe⟩:∃ x,x = R[i]:=⟨_,rfl⟩;rw [<- hxe] at hx hv;have hib:(i:Int) < (R.length:Int):=by omega
  have HNx:=Zz (HNe.o x);clear HP HR3 hcells HNe hxe;by_cases hxt:x = t
  ·
   rw [if_pos hxt] at hv;have HV:=Zz hv;have heq:Hid (∀ w,(binOp .neq 24 (.agg #[.int .i64 x.kind,.string (mkS x.text),.string (mkS x.extra)]) (.agg #[.int .i64 t.kind,.string (mkS t.text),.string (mkS t.extra)])).run Tryz.prog w = .ok (.bool false) w):=Zz (fun w=>by
    have:=HNx.o w;rw [dT hxt] at this;exact this)
   have hneq:=heq.o;clear HNx hv hxt;obtain ⟨xk,xt,xe⟩:=x;obtain ⟨yk,yt,ye⟩:=t;obtain ⟨x0,x1,x2⟩:=hx;dsimp only at x0 x1 x2 a0 a1 a2 hneq;go_upto_region 4 with fail
   go_quiet (fail);go_wp2;go_ret;exact ⟨by rw [HV.o];rfl,⟨HB3.o.os,HB3.o.tape,HB3.o.output,HB3.o.size,HB3.o.block⟩⟩
  ·
   rw [if_neg hxt] at hv;have HV:=Zz hv;have heq:Hid (∀ w,(binOp .neq 24 (.agg #[.int .i64 x.kind,.string (mkS x.text),.string (mkS x.extra)]) (.agg #[.int .i64 t.kind,.string (mkS t.text),.string (mkS t.extra)])).run Tryz.prog w = .ok (.bool true) w):=Zz (fun w=>by
    have:=HNx.o w;rw [dF hxt] at this;exact this)
   have hneq:=heq.o;clear HNx hv hxt;obtain ⟨xk,xt,xe⟩:=x;obtain ⟨yk,yt,ye⟩:=t;obtain ⟨x0,x1,x2⟩:=hx;dsimp only at x0 x1 x2 a0 a1 a2 hneq;go_upto_region 4 with fail
   go_quiet (fail);go_wp2;go_ret;exact ⟨by rw [HV.o];rfl,⟨HB3.o.os,HB3.o.tape,HB3.o.output,HB3.o.size,HB3.o.block⟩⟩
end Search
namespace ParseP
open Go.Lib B Utf TermPure LinesPure SortP Round
def cutL:List UInt8 -> List UInt8 × List UInt8 × Bool
 | []=>([],[],false)
 | b :: l=>if b = 10 then ([],l,true) else (b :: (cutL l).1,(cutL l).2)
theorem cutL_index:∀ l:List UInt8,((cutL l).2.2 = true/\∃ i:Nat,index l [10] = i/\l.take i = (cutL l).1/\l.drop (i + 1) = (cutL l).2.1) \/ ((cutL l).2.2 = false/\index l [10] = -1/\(cutL l).1 = l/\(cutL l).2.1 = [])
 | []=>.inr ⟨rfl,rfl,rfl,rfl⟩
 | b :: l=>by
  rw [cutL,index];by_cases hb:b = 10
  ·
   subst hb;refine .inl ⟨by simp,0,by simp [List.isPrefixOf],by simp,by simp⟩
  ·
   have h1:([10]:List UInt8).isPrefixOf (b :: l) = false:=by
    have:((10:UInt8) == b) = false:=by rw [Zb];exact fun e=>hb e.symm
    simp [List.isPrefixOf,this]
   rw [h1,if_neg hb];rcases cutL_index l with ⟨h2,i,h3,h4,h5⟩ | ⟨h2,h3,h4,h5⟩
   ·
    refine .inl ⟨h2,i + 1,?_,?_,?_⟩
    ·
     rw [h3];have:((i:Int) == -1) = false:=by rw [Zb];omega
     simp [this]
    ·
     simp [h4]
    ·
     simp [h5]
   ·
    exact .inr ⟨h2,by simp [h3],by simp [h4],h5⟩
theorem cutL_eq (l:List UInt8):Lib.cut l [10] = cutL l:=by
 unfold Lib.cut;rcases cutL_index l with ⟨h2,i,h3,h4,h5⟩ | ⟨h2,h3,h4,h5⟩
 ·
  rw [h3,if_pos (by omega)];simp only [Int.toNat_natCast,List.length_singleton];rw [h4,h5,<- h2]
 ·
  rw [h3,if_neg (by omega),<- h2,<- h5]
  conv=>rhs;rw [<- Prod.eta (cutL l),h4]
theorem cutL_rest:∀ l:List UInt8,l ≠ [] -> (cutL l).2.1.length < l.length
 | [],h=>absurd rfl h
 | b :: l,_=>by
  rw [cutL]
  by_cases hb:b = 10
  ·
   rw [if_pos hb];simp
  ·
   rw [if_neg hb]
   by_cases hl:l = []
   ·
    subst hl;simp [cutL]
   ·
    have:=cutL_rest l hl
    simp
    omega
theorem cutL_len:∀ l:List UInt8,(cutL l).1.length <= l.length
 | []=>lR _
 | b :: l=>by
  rw [cutL]
  by_cases hb:b = 10
  ·
   rw [if_pos hb];simp
  ·
   rw [if_neg hb]
   have:=cutL_len l
   simp
   omega
def lineS (s:List UInt8):List UInt8:=if (cutL s).2.2 = true then Lib.trimSuffix (cutL s).1 [13] else (cutL s).1
def restS (s:List UInt8):List UInt8:=(cutL s).2.1
theorem trim_len (x:List UInt8):(Lib.trimSuffix x [13]).length <= x.length:=by
 unfold Lib.trimSuffix
 split
 ·
  simp
 ·
  exact lR _
theorem lineS_len (s:List UInt8):(lineS s).length <= s.length:=by
 have h1:=cutL_len s;have h2:=trim_len (cutL s).1;unfold lineS
 split <;> omega
abbrev Res:=List Triple × Nat × Int
def pgo:Nat -> List UInt8 -> List Triple -> Nat -> Res
 | 0,_,T,n=>(sortT T,n,0)
 | f + 1,s,T,n =>
  if s = [] then (sortT T,n,0)
  else if 200 < n + 1 then ([],n + 1,3)
  else match lineOf false (lineS s) with
   | none=>([],n + 1,2)
   | some none=>pgo f (restS s) T (n + 1)
   | some (some t) =>
    if t ∈ T then pgo f (restS s) T (n + 1)
    else if 100 < T.length + 1 then ([],n + 1,3)
    else pgo f (restS s) (T ++ [t]) (n + 1)
theorem pgo_nil:∀ (f:Nat) (T:List Triple) (n:Nat),pgo f [] T n = (sortT T,n,0)
 | 0,T,n=>rfl
 | f + 1,T,n=>by rw [pgo,if_pos rfl]
theorem pgo_fuel:∀ (f g:Nat) (s:List UInt8) (T:List Triple) (n:Nat),s.length <= f -> s.length <= g -> pgo f s T n = pgo g s T n
 | 0,g,s,T,n,h,_=>by
  obtain rfl:s = []:=Zn (by omega)
  rw [pgo_nil,pgo_nil]
 | f + 1,0,s,T,n,_,h=>by
  obtain rfl:s = []:=Zn (by omega)
  rw [pgo_nil,pgo_nil]
 | f + 1,g + 1,s,T,n,hf,hg=>by
  by_cases hs:s = []
  ·
   subst hs;rw [pgo_nil,pgo_nil]
  ·
   have hr:(restS s).length < s.length:=cutL_rest s hs
   rw [pgo,pgo,if_neg hs,if_neg hs]
   have ih:=fun T n=>pgo_fuel f g (restS s) T n (by omega) (by omega)
   simp only [ih]
def pg (s:List UInt8) (T:List Triple) (n:Nat):Res:=pgo s.length s T n
theorem pg_nil (T:List Triple) (n:Nat):pg [] T n = (sortT T,n,0):=rfl
theorem pg_step (s:List UInt8) (T:List Triple) (n:Nat) (hs:s ≠ []):pg s T n =
  if 200 < n + 1 then ([],n + 1,3)
  else match lineOf false (lineS s) with
   | none=>([],n + 1,2)
   | some none=>pg (restS s) T (n + 1)
   | some (some t) =>
    if t ∈ T then pg (restS s) T (n + 1)
    else if 100 < T.length + 1 then ([],n + 1,3)
    else pg (restS s) (T ++ [t]) (n + 1):=by
 have hr:(restS s).length < s.length:=cutL_rest s hs;have e:∀ T n,pg (restS s) T n = pgo (s.length - 1) (restS s) T n:=fun T n=>pgo_fuel _ _ _ _ _ (lR _) (by omega)
 obtain ⟨f,hf⟩:∃ f,s.length = f + 1:=⟨s.length - 1,by omega⟩;simp only [e];unfold pg;rw [hf,pgo,if_neg hs]
 try rfl
theorem pg_full (s:List UInt8) (T:List Triple) (n:Nat) (hs:s ≠ []) (h:200 < n + 1):pg s T n = ([],n + 1,3):=by rw [pg_step s T n hs,if_pos h]
theorem pg_bad (s:List UInt8) (T:List Triple) (n:Nat) (hs:s ≠ []) (h:¬ 200 < n + 1) (hl:lineOf false (lineS s) = none):pg s T n = ([],n + 1,2):=by rw [pg_step s T n hs,if_neg h,hl]
theorem pg_none (s:List UInt8) (T:List Triple) (n:Nat) (hs:s ≠ []) (h:¬ 200 < n + 1) (hl:lineOf false (lineS s) = some none):pg s T n = pg (restS s) T (n + 1):=by rw [pg_step s T n hs,if_neg h,hl]
theorem pg_old (s:List UInt8) (T:List Triple) (n:Nat) (t:Triple) (hs:s ≠ []) (h:¬ 200 < n + 1) (hl:lineOf false (lineS s) = some (some t)) (ht:t ∈ T):pg s T n = pg (restS s) T (n + 1):=by
 rw [pg_step s T n hs,if_neg h,hl];dsimp only;rw [if_pos ht]
theorem pg_many (s:List UInt8) (T:List Triple) (n:Nat) (t:Triple) (hs:s ≠ []) (h:¬ 200 < n + 1) (hl:lineOf false (lineS s) = some (some t)) (ht:t ∉ T) (hm:100 < T.length + 1):pg s T n = ([],n + 1,3):=by
 rw [pg_step s T n hs,if_neg h,hl];dsimp only;rw [if_neg ht,if_pos hm]
theorem pg_new (s:List UInt8) (T:List Triple) (n:Nat) (t:Triple) (hs:s ≠ []) (h:¬ 200 < n + 1) (hl:lineOf false (lineS s) = some (some t)) (ht:t ∉ T) (hm:¬ 100 < T.length + 1):pg s T n = pg (restS s) (T ++ [t]) (n + 1):=by
 rw [pg_step s T n hs,if_neg h,hl];dsimp only;rw [if_neg ht,if_neg hm]
def parse (s:List UInt8):Res:=if 20000 < s.length then ([],0,4) else pg s [] 0
theorem lineOf_is {s:List UInt8} {t:Triple} (h:lineOf false s = some (some t)):isTriple t = true:=by
 unfold lineOf at h
 repeat' split at h
 all_goals first | (cases h;done) | (cases h;rename_i hc;exact hc.2.2) | skip
theorem isT_parts {t:Triple} (h:isTriple t = true):is t.s = true/\is t.p = true/\is t.o = true:=by
 unfold isTriple at h;simp only [Bool.and_eq_true] at h;exact ⟨h.1,h.2.1,h.2.2.1⟩
theorem is_small {t:Term} (h:is t = true):t.text.length <= 60/\t.extra.length <= 60/\1 <= t.kind/\t.kind <= 5:=by
 rcases is_cases h with ⟨hk,h1,h2⟩ | ⟨hk,h1,h2⟩ | ⟨hk,h1,h2⟩ | ⟨hk,h1,h2⟩ | ⟨hk,h1,h2⟩
 ·
  unfold isIRI at h1;simp only [Bool.and_eq_true,decide_eq_true_eq] at h1;rw [h2,hk];exact ⟨h1.2.1,by simp,by decide,by decide⟩
 ·
  unfold isLabel at h1;simp only [Bool.and_eq_true,decide_eq_true_eq] at h1;rw [h2,hk];exact ⟨by omega,by simp,by decide,by decide⟩
 ·
  unfold isText at h1;simp only [Bool.and_eq_true,decide_eq_true_eq] at h1;rw [h2,hk];exact ⟨by omega,by simp,by decide,by decide⟩
 ·
  unfold isText at h1;unfold isLang at h2;simp only [Bool.and_eq_true,decide_eq_true_eq] at h1 h2;rw [hk];exact ⟨by omega,by omega,by decide,by decide⟩
 ·
  unfold isText at h1;unfold isIRI at h2;simp only [Bool.and_eq_true,decide_eq_true_eq] at h1 h2;rw [hk];exact ⟨by omega,by omega,by decide,by decide⟩
end ParseP
namespace MapT
open Go.RowKit B Rd TermPure LinesPure Ref5 Tri
theorem check_int (em:Bool) (d:Nat) (k:Int) (w:World):(Instr.checkKey em (d + 1) 3 (.int .i64 k)).run Tryz.prog w = .ok () w:=by
 have u3:=underlying3;simp [Instr.checkKey,run_underlying u3]
theorem check_str (em:Bool) (d:Nat) (k:ByteArray) (w:World):(Instr.checkKey em (d + 1) 9 (.string k)).run Tryz.prog w = .ok () w:=by
 have u9:=underlying9;simp [Instr.checkKey,run_underlying u9]
theorem check_term (em:Bool) (d:Nat) (x:Term) (w:World):(Instr.checkKey em (d + 2) 24 (.agg #[.int .i64 x.kind,.string (mkS x.text),.string (mkS x.extra)])).run Tryz.prog w = .ok () w:=by
 have u:=underlying24;have a3:=isAgg3;have z3:=sizeOf3;have a9:=isAgg9;have z9:=sizeOf9;have c3:=fun k w=>check_int em d k w
 have c9:=fun k w=>check_str em d k w
 unfold Instr.checkKey;simp [run_underlying u];go_simp
theorem check_tri (em:Bool) (x:Triple) (w:World):(Instr.checkKey em 10000 36 (tripleV x)).run Tryz.prog w = .ok () w:=by
 have u:=underlying36;have a23:=isAgg24;have z23:=sizeOf24;have c:=fun (x:Term) w=>check_term em 9997 x w
 unfold tripleV;rw [show (10000:Nat) = 9999 + 1 from rfl];unfold Instr.checkKey;simp [run_underlying u];go_simp
theorem equal_tri (x y:Triple) (w:World):(Op.equal 36 (tripleV x) (tripleV y)).run Tryz.prog w = .ok (decide (x = y)) w:=by
 have h:=TriEq.run_eq_tri x y w;unfold tripleV at *;rw [run_eql_struct] at h;unfold Op.equal Op.maxDepth;generalize (Op.equalIn 10000 36 _ _).run Tryz.prog w = r at *;cases r with
 | ok b w' =>
  simp [Result.andThen] at h |-;exact h
 | _=>simp [Result.andThen] at h
theorem ask_tri (t:Triple) (w:World):∀ (es:List MapEntry) (T:List Triple) (i:Nat),es.map (fun e=>(e.key,e.val)) = T.map (fun t=>(tripleV t,Value.bool true)) ->
  ∃ r,(Instr.findAsking 36 (tripleV t) es i).run Tryz.prog w = .ok r w/\((t ∈ T/\∃ j,r = some (j,.bool true)) \/ (t ∉ T/\r = none))
 | [],[],i,_=>⟨none,by simp [Instr.findAsking],.inr ⟨by simp,rfl⟩⟩
 | [],_ :: _,_,h=>by simp at h
 | _ :: _,[],_,h=>by simp at h
 | e :: es,x :: T,i,h=>by
  simp at h
  obtain ⟨⟨h1,h2⟩,h3⟩:=h
  have he:=equal_tri t x w
  rw [<- h1] at he
  by_cases hx:t = x
  ·
   rw [dT hx] at he
   refine ⟨some (i,.bool true),?_,.inl ⟨by simp [hx],i,rfl⟩⟩
   simp [Instr.findAsking,he,h2]
  ·
   rw [dF hx] at he
   obtain ⟨r,hr,hc⟩:=ask_tri t w es T (i + 1) (by simpa using h3)
   refine ⟨r,by simp [Instr.findAsking,he,hr],?_⟩
   simpa [hx] using hc
theorem find_tri (t:Triple) (w:World) (es:List MapEntry) (T:List Triple) (h:es.map (fun e=>(e.key,e.val)) = T.map (fun t=>(tripleV t,Value.bool true))) :
  ∃ r,(Instr.findKey 36 (tripleV t) es).run Tryz.prog w = .ok r w/\((t ∈ T/\∃ j,r = some (j,.bool true)) \/ (t ∉ T/\r = none)):=by
 rw [show (Instr.findKey 36 (tripleV t) es).run Tryz.prog w = (Instr.findAsking 36 (tripleV t) es).run Tryz.prog w from run_findKey_eq _ (by kernel_rfl) _ _];exact ask_tri t w es T 0 h
def MapAt (w:World) (b:Nat) (T:List Triple):Prop:=∃ es clock,w.heap[b]? = some (.map es clock)/\es.toList.map (fun e=>(e.key,e.val)) = T.map (fun t=>(tripleV t,Value.bool true))
theorem MapAt.new (w:World):MapAt (w.alloc (.map #[] 0)) w.heap.size []:=⟨#[],0,Kd.heap_new _ _,rfl⟩
theorem MapAt.lt {w:World} {b:Nat} {T:List Triple} (h:MapAt w b T):b < w.heap.size:=by
 obtain ⟨es,c,h1,_⟩:=h;exact (Array.getElem?_eq_some_iff.1 h1).1
theorem MapAt.moved {w w':World} {b:Nat} {T:List Triple} (h:MapAt w b T) (hm:w'.heap[b]? = w.heap[b]?):MapAt w' b T:=by
 obtain ⟨es,c,h1,h2⟩:=h;exact ⟨es,c,hm.trans h1,h2⟩
theorem MapAt.below {w w':World} {b:Nat} {T:List Triple} (h:MapAt w b T) (hb:Below w.heap.size w w'):MapAt w' b T:=h.moved (hb.block b h.lt)
theorem run_look {w:World} {b:Nat} {T:List Triple} (h:MapAt w b T) (t:Triple):(Instr.lookup 138 (.map (some b)) (tripleV t) false).run Tryz.prog w = .ok (.bool (decide (t ∈ T))) w:=by
 obtain ⟨es,clock,hb,he⟩:=h;obtain ⟨r,hr,hc⟩:=find_tri t w es.toList T he;have hk:=fun em=>check_tri em t w
 have hz:(zeroValue 4).run Tryz.prog w = .ok (.bool false) w:=zeroValue4 w;rcases hc with ⟨h1,j,rfl⟩ | ⟨h1,rfl⟩
 ·
  simp [Instr.lookup,run_underlying underlying138,MapKept.run_getObj_map hb,MapKept.run_setObj_map _ hb,hk,hr,h1]
 ·
  simp [Instr.lookup,run_underlying underlying138,MapKept.run_getObj_map hb,MapKept.run_setObj_map _ hb,hk,hr,h1,hz]
theorem run_put {w:World} {b:Nat} {T:List Triple} (h:MapAt w b T) (t:Triple) (ht:t ∉ T):∃ w',(Instr.mapUpdate 138 (.map (some b)) (tripleV t) (.bool true)).run Tryz.prog w = .ok () w'/\MapAt w' b (T ++ [t])/\w.grownBy w' (some b):=by
 obtain ⟨es,clock,hb,he⟩:=h;obtain ⟨r,hr,hc⟩:=find_tri t w es.toList T he;have hk:=fun em=>check_tri em t w
 rcases hc with ⟨h1,j,rfl⟩ | ⟨h1,rfl⟩
 ·
  exact absurd h1 ht
 ·
  have hlt:b < w.heap.size:=(Array.getElem?_eq_some_iff.1 hb).1;refine ⟨{ w with heap:=w.heap.setIfInBounds b (.map (es.push { key:=tripleV t,val:=.bool true,born:=clock }) (clock + 1)) },?_,⟨es.push { key:=tripleV t,val:=.bool true,born:=clock },clock + 1,?_,?_⟩,?_⟩
  ·
   simp [Instr.mapUpdate,run_underlying underlying138,MapKept.run_getObj_map hb,MapKept.run_setObj_map _ hb,hk,hr]
  ·
   simp [hlt]
  ·
   simp [he]
  ·
   exact ⟨rfl,rfl,rfl,by simp,fun k hk hne=>by
    have hkb:b ≠ k:=fun e=>hne (by rw [e])
    simp [Array.getElem?_setIfInBounds,hkb]⟩
end MapT
namespace RefCmp
open Go.RowKit Go.Lib B Rd Utf TermPure LinesPure Tx Env Tri SortP Print Cmp
def nth (k:Nat):Nat:=[34,92,10,13,9,8,12].getD k 0
theorem one_byte (s:List UInt8) (k:Nat) (h:k < s.length):(mkS s).extract k (k + 1) = mkS [s[k]]:=by
 rw [mkS_extract,show k + 1 - k = 1 by omega,List.drop_eq_getElem_cons h,List.take_succ_cons,List.take_zero]
theorem escaped_calls (s:List UInt8) (hs:s.length <= 1099511627776) (w:World) :
  Calls Tryz.prog 84 #[.string (mkS s)] w fun e w'=>e = .returned (.string (mkS (s.flatMap escB)))/\Below w.heap.size w w':=by
 have zs:=mkS_size s;go_enter func84,ntmps84;go_wp2;go_loopw [6,7] (fun vo vi wr=>∃ (k:Nat) (out:List UInt8),k <= s.length/\vi = .int .i64 k/\vo = .string (mkS out)/\Hid (out = (s.take k).flatMap escB)/\Hid (Below w.heap.size w wr)) (fun _ vi _=>s.length - (intOf vi).toNat)
 case atStart=>exact ⟨0,[],by omega,rfl,rfl,Zz rfl,Zz (bR _ _)⟩
 case round =>
  obtain ⟨k,out,hk,rfl,rfl,HO,HW⟩:=hrel;have zo:=mkS_size out;by_cases hlt:k < s.length
  ·
   have hd:decide (k < s.length) = true:=dT hlt;have ik:(k:Int) < (s.length:Int):=by omega
   have hlen:out.length <= 6 * s.length:=by rw [HO.o];exact Zh (Show.flat_len _) (by rw [Zi];omega)
   have HT:=Zz (Show.flat_take s k hlt);have H1:=Zz (one_byte s k hlt);obtain ⟨b,hb⟩:∃ b,s[k] = b:=⟨_,rfl⟩;have hks:k < (mkS s).size:=by rw [zs];exact hlt
   have hg:(mkS s)[k]'hks = b:=(Rd.mkS_get s k hks hlt).trans hb;rw [hb] at HT H1;clear hb;obtain ⟨n,hn⟩:∃ n,n = b.toNat:=⟨_,rfl⟩;have hn256:n < 256:=by rw [hn];exact b.toNat_lt
   have HN:=Zz hn;have hbn:b.toNat = n:=hn.symm;clear hn;have g0:(⟨#[34,92,10,13,9,8,12]⟩:ByteArray)[0].toNat = 34:=rfl;have g1:(⟨#[34,92,10,13,9,8,12]⟩:ByteArray)[1].toNat = 92:=rfl;have g2:(⟨#[34,92,10,13,9,8,12]⟩:ByteArray)[2].toNat = 10:=rfl;have g3:(⟨#[34,92,10,13,9,8,12]⟩:ByteArray)[3].toNat = 13:=rfl;have g4:(⟨#[34,92,10,13,9,8,12]⟩:ByteArray)[4].toNat = 9:=rfl;have g5:(⟨#[34,92,10,13,9,8,12]⟩:ByteArray)[5].toNat = 8:=rfl;have g6:(⟨#[34,92,10,13,9,8,12]⟩:ByteArray)[6].toNat = 12:=rfl;have q1:(⟨#[92]⟩:ByteArray).size = 1:=rfl;have x1:(mkS out ++ (⟨#[92]⟩:ByteArray)).size = out.length + 1:=by rw [ByteArray.size_append,zo,q1]
   have q4:(⟨#[92,117,48,48]⟩:ByteArray).size = 4:=rfl;have x4:(mkS out ++ (⟨#[92,117,48,48]⟩:ByteArray)).size = out.length + 4:=by rw [ByteArray.size_append,zo,q4]
   go_wp2;go_loopw [9] (fun v9 wx=>∃ j:Nat,j <= 7/\v9 = .int .i64 j/\wx = wr/\Hid (∀ i,i < j -> n ≠ nth i)) (fun v9 _=>7 - (intOf v9).toNat)
   case atStart=>exact ⟨0,by omega,rfl,by first | rfl | trivial,Zz (fun i h=>absurd h (by omega))⟩
   case round =>
    obtain ⟨j,hj,rfl,rfl,HJ⟩:=hrel;have hj8:j = 0 \/ j = 1 \/ j = 2 \/ j = 3 \/ j = 4 \/ j = 5 \/ j = 6 \/ j = 7:=by omega
    rcases hj8 with rfl | rfl | rfl | rfl | rfl | rfl | rfl | rfl
    ·
     by_cases e:n = 34
     ·
      have hne:((34:Int) != (n:Int)) = false:=by rw [bne_eq_false_iff_eq];omega
      have HE:Hid (escB b = [92,34]):=Zz (by
       obtain rfl:b = 34:=by apply UInt8.toNat_inj.1;rw [hbn,e];rfl
       rfl)
      have HX:Hid (mkS out ++ (⟨#[92]⟩:ByteArray) ++ (⟨#[34,92,110,114,116,98,102]⟩:ByteArray).extract 0 1 = mkS (out ++ [92,34])):=Zz (by
       rw [show (⟨#[34,92,110,114,116,98,102]⟩:ByteArray).extract 0 1 = mkS [34] by decide,mkS_lit,mkS_append,mkS_append];simp)
      clear e HJ;go_wp2;refine ⟨⟨k + 1,out ++ [92,34],by omega,by go_num,by first | exact (by rw [<- HX.o];rfl) | rw [HX.o],Zz (by rw [HT.o,<- HO.o,HE.o]),HW⟩,?_⟩;simp [intOf];omega
     ·
      have hne:((34:Int) != (n:Int)) = true:=by rw [bne_iff_ne];omega
      have HJ2:Hid (∀ i,i < 1 -> n ≠ nth i):=Zz (fun i hi=>by
       by_cases h:i < 0
       ·
        exact HJ.o i h
       ·
        obtain rfl:i = 0:=by omega
        exact e)
      clear e HJ;go_wp2;go_roundw
      case rel=>exact ⟨1,by omega,by go_num,by first | rfl | trivial,HJ2⟩
      case measure=>simp [intOf]
    ·
     by_cases e:n = 92
     ·
      have hne:((92:Int) != (n:Int)) = false:=by rw [bne_eq_false_iff_eq];omega
      have HE:Hid (escB b = [92,92]):=Zz (by
       obtain rfl:b = 92:=by apply UInt8.toNat_inj.1;rw [hbn,e];rfl
       rfl)
      have HX:Hid (mkS out ++ (⟨#[92]⟩:ByteArray) ++ (⟨#[34,92,110,114,116,98,102]⟩:ByteArray).extract 1 2 = mkS (out ++ [92,92])):=Zz (by
       rw [show (⟨#[34,92,110,114,116,98,102]⟩:ByteArray).extract 1 2 = mkS [92] by decide,mkS_lit,mkS_append,mkS_append];simp)
      clear e HJ;go_wp2;refine ⟨⟨k + 1,out ++ [92,92],by omega,by go_num,by first | exact (by rw [<- HX.o];rfl) | rw [HX.o],Zz (by rw [HT.o,<- HO.o,HE.o]),HW⟩,?_⟩;simp [intOf];omega
     ·
      have hne:((92:Int) != (n:Int)) = true:=by rw [bne_iff_ne];omega
      have HJ2:Hid (∀ i,i < 2 -> n ≠ nth i):=Zz (fun i hi=>by
       by_cases h:i < 1
       ·
        exact HJ.o i h
       ·
        obtain rfl:i = 1:=by omega
        exact e)
      clear e HJ;go_wp2;go_roundw
      case rel=>exact ⟨2,by omega,by go_num,by first | rfl | trivial,HJ2⟩
      case measure=>simp [intOf]
    ·
     by_cases e:n = 10
     ·
      have hne:((10:Int) != (n:Int)) = false:=by rw [bne_eq_false_iff_eq];omega
      have HE:Hid (escB b = [92,110]):=Zz (by
       obtain rfl:b = 10:=by apply UInt8.toNat_inj.1;rw [hbn,e];rfl
       rfl)
      have HX:Hid (mkS out ++ (⟨#[92]⟩:ByteArray) ++ (⟨#[34,92,110,114,116,98,102]⟩:ByteArray).extract 2 3 = mkS (out ++ [92,110])):=Zz (by
       rw [show (⟨#[34,92,110,114,116,98,102]⟩:ByteArray).extract 2 3 = mkS [110] by decide,mkS_lit,mkS_append,mkS_append];simp)
      clear e HJ;go_wp2;refine ⟨⟨k + 1,out ++ [92,110],by omega,by go_num,by first | exact (by rw [<- HX.o];rfl) | rw [HX.o],Zz (by rw [HT.o,<- HO.o,HE.o]),HW⟩,?_⟩;simp [intOf];omega
     ·
      have hne:((10:Int) != (n:Int)) = true:=by rw [bne_iff_ne];omega
      have HJ2:Hid (∀ i,i < 3 -> n ≠ nth i):=Zz (fun i hi=>by
       by_cases h:i < 2
       ·
        exact HJ.o i h
       ·
        obtain rfl:i = 2:=by omega
        exact e)
      clear e HJ;go_wp2;go_roundw
      case rel=>exact ⟨3,by omega,by go_num,by first | rfl | trivial,HJ2⟩
      case measure=>simp [intOf]
    ·
     by_cases e:n = 13
     ·
      have hne:((13:Int) != (n:Int)) = false:=by rw [bne_eq_false_iff_eq];omega
      have HE:Hid (escB b = [92,114]):=Zz (by
       obtain rfl:b = 13:=by apply UInt8.toNat_inj.1;rw [hbn,e];rfl
       rfl)
      have HX:Hid (mkS out ++ (⟨#[92]⟩:ByteArray) ++ (⟨#[34,92,110,114,116,98,102]⟩:ByteArray).extract 3 4 = mkS (out ++ [92,114])):=Zz (by
       rw [show (⟨#[34,92,110,114,116,98,102]⟩:ByteArray).extract 3 4 = mkS [114] by decide,mkS_lit,mkS_append,mkS_append];simp)
      clear e HJ;go_wp2;refine ⟨⟨k + 1,out ++ [92,114],by omega,by go_num,by first | exact (by rw [<- HX.o];rfl) | rw [HX.o],Zz (by rw [HT.o,<- HO.o,HE.o]),HW⟩,?_⟩;simp [intOf];omega
     ·
      have hne:((13:Int) != (n:Int)) = true:=by rw [bne_iff_ne];omega
      have HJ2:Hid (∀ i,i < 4 -> n ≠ nth i):=Zz (fun i hi=>by
       by_cases h:i < 3
       ·
        exact HJ.o i h
       ·
        obtain rfl:i = 3:=by omega
        exact e)
      clear e HJ;go_wp2;go_roundw
      case rel=>exact ⟨4,by omega,by go_num,by first | rfl | trivial,HJ2⟩
      case measure=>simp [intOf]
    ·
     by_cases e:n = 9
     ·
      have hne:((9:Int) != (n:Int)) = false:=by rw [bne_eq_false_iff_eq];omega
      have HE:Hid (escB b = [92,116]):=Zz (by
       obtain rfl:b = 9:=by apply UInt8.toNat_inj.1;rw [hbn,e];rfl
       rfl)
      have HX:Hid (mkS out ++ (⟨#[92]⟩:ByteArray) ++ (⟨#[34,92,110,114,116,98,102]⟩:ByteArray).extract 4 5 = mkS (out ++ [92,116])):=Zz (by
       rw [show (⟨#[34,92,110,114,116,98,102]⟩:ByteArray).extract 4 5 = mkS [116] by decide,mkS_lit,mkS_append,mkS_append];simp)
      clear e HJ;go_wp2;refine ⟨⟨k + 1,out ++ [92,116],by omega,by go_num,by first | exact (by rw [<- HX.o];rfl) | rw [HX.o],Zz (by rw [HT.o,<- HO.o,HE.o]),HW⟩,?_⟩;simp [intOf];omega
     ·
      have hne:((9:Int) != (n:Int)) = true:=by rw [bne_iff_ne];omega
      have HJ2:Hid (∀ i,i < 5 -> n ≠ nth i):=Zz (fun i hi=>by
       by_cases h:i < 4
       ·
        exact HJ.o i h
       ·
        obtain rfl:i = 4:=by omega
        exact e)
      clear e HJ;go_wp2;go_roundw
      case rel=>exact ⟨5,by omega,by go_num,by first | rfl | trivial,HJ2⟩
      case measure=>simp [intOf]
    ·
     by_cases e:n = 8
     ·
      have hne:((8:Int) != (n:Int)) = false:=by rw [bne_eq_false_iff_eq];omega
      have HE:Hid (escB b = [92,98]):=Zz (by
       obtain rfl:b = 8:=by apply UInt8.toNat_inj.1;rw [hbn,e];rfl
       rfl)
      have HX:Hid (mkS out ++ (⟨#[92]⟩:ByteArray) ++ (⟨#[34,92,110,114,116,98,102]⟩:ByteArray).extract 5 6 = mkS (out ++ [92,98])):=Zz (by
       rw [show (⟨#[34,92,110,114,116,98,102]⟩:ByteArray).extract 5 6 = mkS [98] by decide,mkS_lit,mkS_append,mkS_append];simp)
      clear e HJ;go_wp2;refine ⟨⟨k + 1,out ++ [92,98],by omega,by go_num,by first | exact (by rw [<- HX.o];rfl) | rw [HX.o],Zz (by rw [HT.o,<- HO.o,HE.o]),HW⟩,?_⟩;simp [intOf];omega
     ·
      have hne:((8:Int) != (n:Int)) = true:=by rw [bne_iff_ne];omega
      have HJ2:Hid (∀ i,i < 6 -> n ≠ nth i):=Zz (fun i hi=>by
       by_cases h:i < 5
       ·
        exact HJ.o i h
       ·
        obtain rfl:i = 5:=by omega
        exact e)
      clear e HJ;go_wp2;go_roundw
      case rel=>exact ⟨6,by omega,by go_num,by first | rfl | trivial,HJ2⟩
      case measure=>simp [intOf]
    ·
     by_cases e:n = 12
     ·
      have hne:((12:Int) != (n:Int)) = false:=by rw [bne_eq_false_iff_eq];omega
      have HE:Hid (escB b = [92,102]):=Zz (by
       obtain rfl:b = 12:=by apply UInt8.toNat_inj.1;rw [hbn,e];rfl
       rfl)
      have HX:Hid (mkS out ++ (⟨#[92]⟩:ByteArray) ++ (⟨#[34,92,110,114,116,98,102]⟩:ByteArray).extract 6 7 = mkS (out ++ [92,102])):=Zz (by
       rw [show (⟨#[34,92,110,114,116,98,102]⟩:ByteArray).extract 6 7 = mkS [102] by decide,mkS_lit,mkS_append,mkS_append];simp)
      clear e HJ;go_wp2;refine ⟨⟨k + 1,out ++ [92,102],by omega,by go_num,by first | exact (by rw [<- HX.o];rfl) | rw [HX.o],Zz (by rw [HT.o,<- HO.o,HE.o]),HW⟩,?_⟩;simp [intOf];omega
     ·
      have hne:((12:Int) != (n:Int)) = true:=by rw [bne_iff_ne];omega
      have HJ2:Hid (∀ i,i < 7 -> n ≠ nth i):=Zz (fun i hi=>by
       by_cases h:i < 6
       ·
        exact HJ.o i h
       ·
        obtain rfl:i = 6:=by omega
        exact e)
      clear e HJ;go_wp2;go_roundw
      case rel=>exact ⟨7,by omega,by go_num,by first | rfl | trivial,HJ2⟩
      case measure=>simp [intOf]
    ·
     have m0:=HJ.o 0 (by omega);have m1:=HJ.o 1 (by omega);have m2:=HJ.o 2 (by omega);have m3:=HJ.o 3 (by omega);have m4:=HJ.o 4 (by omega);have m5:=HJ.o 5 (by omega);have m6:=HJ.o 6 (by omega);simp only [nth,List.getD_cons_zero,List.getD_cons_succ] at m0 m1 m2 m3 m4 m5 m6;by_cases h3:n < 32 \/ n = 127
     ·
      have HE:=Zz (Show.esc_hex HN.o h3 m5 m4 m2 m6 m3);have H1x:=Zz (Show.hexS (n / 16) (by omega));have H2x:=Zz (Show.hexS (n % 16) (by omega));have i0:(0:Int) <= (n:Int):=by omega
      have i1:(n:Int) <= 127:=by omega
      have hor:(decide ((n:Int) < 32) = true) \/ (decide ((n:Int) < 32) = false/\((n:Int) == 127) = true):=by
       by_cases h:n < 32
       ·
        exact .inl (dT (by omega))
       ·
        exact .inr ⟨dF (by omega),by rw [beq_iff_eq];omega⟩
      clear h3 m0 m1 m2 m3 m4 m5 m6 HJ;rcases hor with d1 | ⟨d1,d2⟩
      all_goals
       go_wp2;go_quiet (fail);go_wp2;refine ⟨⟨k + 1,out ++ [92,117,48,48,hexD (n / 16),hexD (n % 16)],by omega,by go_num,by rw [H1x.o,H2x.o,mkS_lit,mkS_append,mkS_append,mkS_append];simp,Zz (by rw [HT.o,<- HO.o,HE.o]),Zz (bel_drewN HW.o _)⟩,?_⟩;simp [intOf];omega
     ·
      have HE:=Zz (Show.esc_none HN.o (by omega) (by omega) m0 m1);have d1:decide ((n:Int) < 32) = false:=dF (by omega);have d2:((n:Int) == 127) = false:=by rw [Zb];omega
      clear h3 m0 m1 m2 m3 m4 m5 m6 HJ;go_wp2;refine ⟨⟨k + 1,out ++ [b],by omega,by go_num,by rw [H1.o,mkS_append],Zz (by rw [HT.o,<- HO.o,HE.o]),HW⟩,?_⟩;simp [intOf];omega
  ·
   have hd:decide (k < s.length) = false:=dF hlt;obtain rfl:k = s.length:=by omega
   have HO':Hid (out = s.flatMap escB):=Zz (by have:=HO.o;rwa [List.take_length] at this);clear HO;go_wp2;go_ret;exact ⟨ret_str (by rw [HO'.o]),HW.o⟩
end RefCmp
namespace RefCmp
open Go.RowKit Go.Lib B Rd Utf TermPure LinesPure Tx Env Tri SortP Print Cmp
theorem show4_calls (t:Term) (ht:SmallM t) (w:World) :
  Calls Tryz.prog 43 #[Ref5.termV t] w fun e w'=>e = .returned (.string (mkS (shown t)))/\Below w.heap.size w w':=by
 obtain ⟨kind,x,ex⟩:=t;obtain ⟨hx,hex⟩:=ht;dsimp only at hx hex;have HQ:=Zz (fun w=>escaped_calls x hx w);have hql:=Show.flat_len x;have zx:=mkS_size x;have ze:=mkS_size ex;unfold Ref5.termV;dsimp only;have HBX:=Zz (fun k=>Tc.TC.new w ⟨k,x,ex⟩);have HBe:=Zz (fun (k:Int)=>bel_alloc (bR w.heap.size w) (.cells #[.int .i64 k,.string (mkS x),.string (mkS ex)] 24));by_cases h1:kind = 1
 ·
  subst h1;have z1:(⟨#[60]⟩:ByteArray).size = 1:=rfl;have z2:((⟨#[60]⟩:ByteArray) ++ mkS x).size = 1 + x.length:=by rw [ByteArray.size_append,z1,zx]
  have z3:(⟨#[62]⟩:ByteArray).size = 1:=rfl;go_enter func43,ntmps43;go_wp2;go_ret;exact ⟨ret_str (by rw [mkS_lit,mkS_lit,mkS_append,mkS_append];rfl),HBe.o _⟩
 have e1:(kind == 1) = false:=by rw [Zb];exact h1
 by_cases h2:kind = 2
 ·
  subst h2;have z1:(⟨#[95,58]⟩:ByteArray).size = 2:=rfl;go_enter func43,ntmps43;go_wp2;go_ret;exact ⟨ret_str (by rw [mkS_lit,mkS_append];rfl),HBe.o _⟩
 have e2:(kind == 2) = false:=by rw [Zb];exact h2
 have HS0:Hid (¬ kind = 1/\¬ kind = 2):=Zz ⟨h1,h2⟩;clear h1 h2;have HQe:Hid (TermPure.quoted x = 34 :: (x.flatMap escB ++ [34])):=Zz rfl;generalize x.flatMap escB = q at *;have zq:=mkS_size q;have y1:(⟨#[34]⟩:ByteArray).size = 1:=rfl;have y2:((⟨#[34]⟩:ByteArray) ++ mkS q).size = 1 + q.length:=by rw [ByteArray.size_append,y1,zq]
 have y3:((⟨#[34]⟩:ByteArray) ++ mkS q ++ (⟨#[34]⟩:ByteArray)).size = 1 + q.length + 1:=by rw [ByteArray.size_append,y2,y1]
 have z1:(⟨#[64]⟩:ByteArray).size = 1:=rfl;have z3:(⟨#[62]⟩:ByteArray).size = 1:=rfl;have z5:(⟨#[94,94,60]⟩:ByteArray).size = 3:=rfl;have y4:((⟨#[34]⟩:ByteArray) ++ mkS q ++ (⟨#[34]⟩:ByteArray) ++ (⟨#[64]⟩:ByteArray)).size = 1 + q.length + 1 + 1:=by rw [ByteArray.size_append,y3,z1]
 have y5:((⟨#[34]⟩:ByteArray) ++ mkS q ++ (⟨#[34]⟩:ByteArray) ++ (⟨#[94,94,60]⟩:ByteArray)).size = 1 + q.length + 1 + 3:=by rw [ByteArray.size_append,y3,z5]
 have y6:((⟨#[34]⟩:ByteArray) ++ mkS q ++ (⟨#[34]⟩:ByteArray) ++ (⟨#[94,94,60]⟩:ByteArray) ++ mkS ex).size = 1 + q.length + 1 + 3 + ex.length:=by rw [ByteArray.size_append,y5,ze]
 have HK:Hid (kind = 4 \/ kind = 5 \/ (¬ kind = 4/\¬ kind = 5)):=Zz (by omega);go_enter func43,ntmps43;go_wp2_with fail;refine (HQ.o _).mono ?_;rintro e w2 ⟨rfl,hb⟩;have HB:=Zz (bel_step (HBe.o kind) hb);obtain ⟨k0,k1,k2,_,_,_⟩:=(HBX.o kind).below hb;dsimp only at k0 k1 k2;clear hb;rcases HK.o with h4 | h5 | ⟨h4,h5⟩
 ·
  subst h4;have HS:Hid (shown ⟨4,x,ex⟩ = TermPure.quoted x ++ 64 :: ex):=Zz rfl;go_wp2;go_ret;exact ⟨ret_str (by rw [HS.o,HQe.o,mkS_lit,mkS_lit,mkS_append,mkS_append,mkS_append,mkS_append];simp),HB.o⟩
 ·
  subst h5;have HS:Hid (shown ⟨5,x,ex⟩ = TermPure.quoted x ++ (94 :: 94 :: 60 :: (ex ++ [62]))):=Zz rfl;go_wp2;go_ret;exact ⟨ret_str (by rw [HS.o,HQe.o,mkS_lit,mkS_lit,mkS_lit,mkS_append,mkS_append,mkS_append,mkS_append,mkS_append];simp),HB.o⟩
 ·
  have e4:(kind == 4) = false:=by rw [Zb];exact h4
  have e5:(kind == 5) = false:=by rw [Zb];exact h5
  have HS:Hid (shown ⟨kind,x,ex⟩ = TermPure.quoted x):=Zz (by unfold shown;dsimp only;rw [if_neg HS0.o.1,if_neg HS0.o.2,if_neg h4,if_neg h5]);clear h4 h5;go_wp2;go_ret;exact ⟨ret_str (by rw [HS.o,HQe.o,mkS_lit,mkS_append,mkS_append];rfl),HB.o⟩
theorem cmp4_calls (a b:Term) (ha:SmallM a) (hb:SmallM b) (w:World):Calls Tryz.prog 17 #[Ref5.termV a,Ref5.termV b] w fun e w'=>e = .returned (.int .i64 (cmpTm a b))/\Below w.heap.size w w':=by
 obtain ⟨k,x,ex⟩:=a;obtain ⟨k',x',ex'⟩:=b;have H1:=Zz (fun w=>show4_calls ⟨k,x,ex⟩ ha w);have H2:=Zz (fun w=>show4_calls ⟨k',x',ex'⟩ hb w);have HV:Hid (cmpTm ⟨k,x,ex⟩ ⟨k',x',ex'⟩ = SortP.cmpL (shown ⟨k,x,ex⟩) (shown ⟨k',x',ex'⟩)):=Zz rfl;generalize shown ⟨k,x,ex⟩ = S1 at *;generalize shown ⟨k',x',ex'⟩ = S2 at *;have HX:=Zz (fun p=>box2 w k x ex k' x' ex' p);have HBe:=Zz (bel_alloc (bel_alloc (bR w.heap.size w) (.cells #[.int .i64 k,.string (mkS x),.string (mkS ex)] 24)) (.cells #[.int .i64 k',.string (mkS x'),.string (mkS ex')] 24));have a0:=fun p=>(HX.o p).1.1
 have a1:=fun p=>(HX.o p).1.2.1
 have a2:=fun p=>(HX.o p).1.2.2
 have b0:=fun p=>(HX.o p).2.1
 have b1:=fun p=>(HX.o p).2.2.1
 have b2:=fun p=>(HX.o p).2.2.2
 have hl:=less_eq S1 S2;have he:=beq_eq S1 S2;have HCases:Hid ((decide (S1 < S2) = true/\SortP.cmpL S1 S2 = -1) \/ (decide (S1 < S2) = false/\decide (S1 = S2) = true/\SortP.cmpL S1 S2 = 0) \/ (decide (S1 < S2) = false/\decide (S1 = S2) = false/\SortP.cmpL S1 S2 = 1)):=Zz (by
  rcases SortP.cmpL_three S1 S2 with h | h | h
  ·
   exact .inl ⟨dT ((SortP.cmpL_neg S1 S2).1 (by rw [h];decide)),h⟩
  ·
   have:=(SortP.cmpL_zero S1 S2).1 h;exact .inr (.inl ⟨dF (by rw [this];exact List.lt_irrefl _),dT this,h⟩)
  ·
   refine .inr (.inr ⟨dF (fun h'=>?_),dF (fun h'=>?_),h⟩)
   ·
    have:=(SortP.cmpL_neg S1 S2).2 h';omega
   ·
    have:=(SortP.cmpL_zero S1 S2).2 h';omega)
 unfold Ref5.termV;dsimp only;clear ha hb;rcases HCases.o with ⟨c1,c3⟩ | ⟨c1,c2,c3⟩ | ⟨c1,c2,c3⟩
 all_goals
  rw [c1] at hl
  try rw [c2] at he
  have HC3:=Zz c3;clear c1 c3 HCases
  try clear c2
  go_enter func17,ntmps17;go_upto_region 1 with fail
  refine QT.region_all (by kernel_rfl) (by kernel_rfl) ?_
  iterate 1 (go_big_quiet_step (fail))
  go_big_quiet_step (exact QT.Bel.call _ (H1.o _))
  iterate 1 (go_big_quiet_step (fail))
  go_big_quiet_step (exact QT.Bel.call _ (H2.o _))
  repeat (go_big_quiet_step (fail))
  refine wpQuiet_nil ?_;intro w2 hw';obtain ⟨⟨_,hb⟩,rfl⟩:=hw';have HB:=Zz (bel_step HBe.o hb);clear hb a0 a1 a2 b0 b1 b2;go_wp2;go_ret;exact ⟨by rw [HV.o,HC3.o];rfl,HB.o⟩
theorem cmp5_calls (a b:Triple) (ha:SmallT a) (hb:SmallT b) (w:World):Calls Tryz.prog 96 #[Ref5.tripleV a,Ref5.tripleV b] w fun e w'=>e = .returned (.int .i64 (cmpT a b))/\Below w.heap.size w w':=by
 have HX:=Zz (fun p=>box18 w a b p);have H1:=Zz (fun w=>cmp4_calls a.s b.s ha.1 hb.1 w);have H2:=Zz (fun w=>cmp4_calls a.p b.p ha.2.1 hb.2.1 w);have H3:=Zz (fun w=>cmp4_calls a.o b.o ha.2.2 hb.2.2 w);have HV:Hid (cmpT a b = orI (cmpTm a.s b.s) (cmpTm a.p b.p) (cmpTm a.o b.o)):=Zz rfl;have HBe:=Zz (bel_alloc (bel_alloc (bR w.heap.size w) (.cells #[.int .i64 a.s.kind,.string (mkS a.s.text),.string (mkS a.s.extra),.int .i64 a.p.kind,.string (mkS a.p.text),.string (mkS a.p.extra),.int .i64 a.o.kind,.string (mkS a.o.text),.string (mkS a.o.extra)] 36)) (.cells #[.int .i64 b.s.kind,.string (mkS b.s.text),.string (mkS b.s.extra),.int .i64 b.p.kind,.string (mkS b.p.text),.string (mkS b.p.extra),.int .i64 b.o.kind,.string (mkS b.o.text),.string (mkS b.o.extra)] 36));have HZ:=Zz (show ((w.alloc (.cells #[.int .i64 a.s.kind,.string (mkS a.s.text),.string (mkS a.s.extra),.int .i64 a.p.kind,.string (mkS a.p.text),.string (mkS a.p.extra),.int .i64 a.o.kind,.string (mkS a.o.text),.string (mkS a.o.extra)] 36)).alloc (.cells #[.int .i64 b.s.kind,.string (mkS b.s.text),.string (mkS b.s.extra),.int .i64 b.p.kind,.string (mkS b.p.text),.string (mkS b.p.extra),.int .i64 b.o.kind,.string (mkS b.o.text),.string (mkS b.o.extra)] 36)).heap.size = w.heap.size + 2 by simp);generalize cmpTm a.s b.s = v1 at *;generalize cmpTm a.p b.p = v2 at *;generalize cmpTm a.o b.o = v3 at *;obtain ⟨⟨sk,sx,se⟩,⟨pk,px,pe⟩,⟨ok,ox,oe⟩⟩:=a;obtain ⟨⟨sk',sx',se'⟩,⟨pk',px',pe'⟩,⟨ok',ox',oe'⟩⟩:=b;unfold Ref5.tripleV;dsimp only;clear ha hb;go_enter func96,ntmps96;go_wp2_with fail;refine (H1.o _).mono ?_;rintro e w2 ⟨rfl,hb2⟩;have HB2:=Zz hb2;clear hb2;by_cases n1:v1 = 0
 ·
  subst n1;obtain ⟨⟨a0,a1,a2,a3,a4,a5,a6,a7,a8⟩,b0,b1,b2,b3,b4,b5,b6,b7,b8⟩:=HX.o ⟨w2,HB2.o⟩;dsimp only at a0 a1 a2 a3 a4 a5 a6 a7 a8 b0 b1 b2 b3 b4 b5 b6 b7 b8;go_wp2_with fail;refine (H2.o _).mono ?_;rintro e w3 ⟨rfl,hb3⟩;have HB3:=Zz (bel_step HB2.o hb3);clear hb3 a0 a1 a2 a3 a4 a5 a6 a7 a8 b0 b1 b2 b3 b4 b5 b6 b7 b8;by_cases n2:v2 = 0
  ·
   subst n2;obtain ⟨⟨a0,a1,a2,a3,a4,a5,a6,a7,a8⟩,b0,b1,b2,b3,b4,b5,b6,b7,b8⟩:=HX.o ⟨w3,HB3.o⟩;dsimp only at a0 a1 a2 a3 a4 a5 a6 a7 a8 b0 b1 b2 b3 b4 b5 b6 b7 b8;have HV':Hid (orI 0 0 v3 = v3):=Zz rfl;go_wp2_with fail;refine (H3.o _).mono ?_;rintro e w4 ⟨rfl,hb4⟩;have HB4:=Zz (bel_step HB3.o hb4);clear hb4 a0 a1 a2 a3 a4 a5 a6 a7 a8 b0 b1 b2 b3 b4 b5 b6 b7 b8;go_wp2;go_ret;exact ⟨by rw [HV.o,HV'.o];rfl,bel_step HBe.o HB4.o⟩
  ·
   have hn:(v2 == 0) = false:=by rw [Zb];exact n2
   have HV':Hid (orI 0 v2 v3 = v2):=Zz (by unfold orI;rw [if_neg (by simp),if_pos n2]);clear n2;go_wp2;go_ret;exact ⟨by rw [HV.o,HV'.o];rfl,bel_step HBe.o HB3.o⟩
 ·
  have hn:(v1 == 0) = false:=by rw [Zb];exact n1
  have HV':Hid (orI v1 v2 v3 = v1):=Zz (by unfold orI;rw [if_pos n1]);clear n1;go_wp2;go_ret;exact ⟨by rw [HV.o,HV'.o];rfl,bel_step HBe.o HB2.o⟩
end RefCmp
namespace Long
open Go.RowKit Go.Lib B Rd Utf TermPure LinesPure Tx Env Tri SortP Print Cmp
theorem row_fits {w:World} {ok:Nat -> Prop} {l:List Triple} {v:Value} (h:triK.sl.M w ok l [v]):∀ t ∈ l,FitsW3 t:=by
 obtain ⟨A,c,_,_,_,_,hrow⟩:=h;intro t ht;obtain ⟨k,hk,rfl⟩:=List.mem_iff_getElem.1 ht;obtain ⟨_,_,_,h,_⟩:=Kd.row_at hrow hk;exact h.2
structure C9 (w:World) (g o:Nat) (t:Triple):Prop where
 c0:w.cell? ⟨g,o,none⟩ = some (.int .i64 t.s.kind)
 c1:w.cell? ⟨g,o + 1,none⟩ = some (.string (mkS t.s.text))
 c2:w.cell? ⟨g,o + 2,none⟩ = some (.string (mkS t.s.extra))
 c3:w.cell? ⟨g,o + 3,none⟩ = some (.int .i64 t.p.kind)
 c4:w.cell? ⟨g,o + 4,none⟩ = some (.string (mkS t.p.text))
 c5:w.cell? ⟨g,o + 5,none⟩ = some (.string (mkS t.p.extra))
 c6:w.cell? ⟨g,o + 6,none⟩ = some (.int .i64 t.o.kind)
 c7:w.cell? ⟨g,o + 7,none⟩ = some (.string (mkS t.o.text))
 c8:w.cell? ⟨g,o + 8,none⟩ = some (.string (mkS t.o.extra))
theorem C9.of {w:World} {g o:Nat} {t:Triple} (h:∀ j u,(triL t)[j]? = some u -> w.cell? ⟨g,o + j,none⟩ = some u):C9 w g o t:=
 ⟨h 0 _ rfl,h 1 _ rfl,h 2 _ rfl,h 3 _ rfl,h 4 _ rfl,h 5 _ rfl,h 6 _ rfl,h 7 _ rfl,h 8 _ rfl⟩
theorem C9.lt {w:World} {g o:Nat} {t:Triple} (h:C9 w g o t):g < w.heap.size:=World.block_lt_of_cell? w ⟨g,o,none⟩ h.c0
theorem C9.moved {w w':World} {g o:Nat} {t:Triple} (h:C9 w g o t) (hm:w'.heap[g]? = w.heap[g]?):C9 w' g o t:=
 have k:∀ {i v},w.cell? ⟨g,i,none⟩ = some v -> w'.cell? ⟨g,i,none⟩ = some v:=fun {i v} hc=>(World.cell?_of_block (a:=⟨g,i,none⟩) hm).trans hc
 ⟨k h.c0,k h.c1,k h.c2,k h.c3,k h.c4,k h.c5,k h.c6,k h.c7,k h.c8⟩
theorem C9.below {w w':World} {g o:Nat} {t:Triple} (h:C9 w g o t) (hb:Below w.heap.size w w'):C9 w' g o t:=h.moved (hb.block g h.lt)
theorem C9.new (w:World) (t:Triple):C9 (w.alloc (.cells (triL t).toArray 36)) w.heap.size 0 t:=C9.of (fun j u hu=>by
 rw [Nat.zero_add,World.cell?,Kd.heap_new]
 simpa using hu)
theorem C9.alloc {w:World} {g o:Nat} {t:Triple} (h:C9 w g o t) (x:Obj):C9 (w.alloc x) g o t:=h.below (bel_alloc (bR _ _) x)
theorem row_cells {w:World} {l:List Triple} {A:Option Addr} {c:Nat} (h:triK.sl.M w (fun k=>k < w.heap.size) l [.slice A l.length c]) (k:Nat) (hk:k < l.length) :
  ∃ b off,A = some ⟨b,off,none⟩/\b < w.heap.size/\∀ i (hi:i < l.length),C9 w b (off + i * 9) l[i]:=by
 obtain ⟨A',c',he,hlc,_,hA,hrow⟩:=h;obtain ⟨rfl,rfl⟩:A = A'/\c = c':=by simpa using he
 obtain ⟨b,off,hAe,hb,_,hcells⟩:=Kd.row_addr hrow (by omega);refine ⟨b,off,hAe,hb,fun i hi=>?_⟩;obtain ⟨cs,⟨hcs,_⟩,hcell⟩:=hcells i hi;subst hcs;exact C9.of hcell
theorem sl_len {w:World} {ok:Nat -> Prop} {l:List Triple} {A:Option Addr} {c:Nat} (h:triK.sl.M w ok l [.slice A l.length c]):l.length <= 140737488355328:=by
 obtain ⟨_,_,_,_,⟨h,_⟩,_⟩:=h;exact h
end Long
namespace SortW
open Go.RowKit Go.Lib B Rd Utf TermPure LinesPure Tx Env Tri SortP Print Cmp Long
def put9 (w:World) (g o:Nat) (t:Triple):World:=(((((((((w.setCell ⟨g,o,none⟩ (.int .i64 t.s.kind)).setCell ⟨g,o + 1,none⟩ (.string (mkS t.s.text))).setCell ⟨g,o + 2,none⟩ (.string (mkS t.s.extra))).setCell ⟨g,o + 3,none⟩ (.int .i64 t.p.kind)).setCell ⟨g,o + 4,none⟩ (.string (mkS t.p.text))).setCell ⟨g,o + 5,none⟩ (.string (mkS t.p.extra))).setCell ⟨g,o + 6,none⟩ (.int .i64 t.o.kind)).setCell ⟨g,o + 7,none⟩ (.string (mkS t.o.text))).setCell ⟨g,o + 8,none⟩ (.string (mkS t.o.extra)))
theorem some_set {w:World} {a b:Addr} {v:Value} (h:(w.cell? a).isSome = true):((w.setCell b v).cell? a).isSome = true:=by
 by_cases e:b = a
 ·
  subst e;rw [World.cell?_setCell_same' _ _ _ h]
  try rfl
 ·
  first
   | (rw [Zo _ _ _ _ (fun h=>e h)];exact h)
   | (rw [Zo _ _ _ _ (fun h=>e h.symm)];exact h)
theorem same_of {w:World} {a:Addr} {v:Value} (h:(w.cell? a).isSome = true):(w.setCell a v).cell? a = some v:=World.cell?_setCell_same' _ _ _ h
theorem put9_other (w:World) (g o:Nat) (t:Triple) (j:Nat) (h:j < o \/ o + 9 <= j):(put9 w g o t).cell? ⟨g,j,none⟩ = w.cell? ⟨g,j,none⟩:=by
 unfold put9
 iterate 9 rw [Zo _ _ _ _ (by simp;try omega)]
theorem put9_frozen (w:World) (g o:Nat) (t:Triple) (a:Addr):(put9 w g o t).frozen? a = w.frozen? a:=by
 unfold put9
 iterate 9 rw [World.frozen?_setCell]
theorem set_grown {w0 w:World} {g:Nat} (h:w0.grownBy w (some g)) (j:Nat) (v:Value):w0.grownBy (w.setCell ⟨g,j,none⟩ v) (some g):=h.trans (grown_setCell w ⟨g,j,none⟩ v)
theorem put9_grown (w:World) (g o:Nat) (t:Triple):w.grownBy (put9 w g o t) (some g):=by
 unfold put9
 iterate 9 refine set_grown ?_ _ _
 exact World.grownBy.refl _ _
theorem put9_same {w:World} {g o:Nat} {t0:Triple} (h:C9 w g o t0) (t:Triple):C9 (put9 w g o t) g o t:=by
 have s0:(w.cell? ⟨g,o,none⟩).isSome = true:=by rw [h.c0];rfl
 have s1:(w.cell? ⟨g,o + 1,none⟩).isSome = true:=by rw [h.c1];rfl
 have s2:(w.cell? ⟨g,o + 2,none⟩).isSome = true:=by rw [h.c2];rfl
 have s3:(w.cell? ⟨g,o + 3,none⟩).isSome = true:=by rw [h.c3];rfl
 have s4:(w.cell? ⟨g,o + 4,none⟩).isSome = true:=by rw [h.c4];rfl
 have s5:(w.cell? ⟨g,o + 5,none⟩).isSome = true:=by rw [h.c5];rfl
 have s6:(w.cell? ⟨g,o + 6,none⟩).isSome = true:=by rw [h.c6];rfl
 have s7:(w.cell? ⟨g,o + 7,none⟩).isSome = true:=by rw [h.c7];rfl
 have s8:(w.cell? ⟨g,o + 8,none⟩).isSome = true:=by rw [h.c8];rfl
 unfold put9;constructor
 ·
  iterate 8 rw [Zo _ _ _ _ (by simp)]
  exact same_of s0
 ·
  iterate 7 rw [Zo _ _ _ _ (by simp)]
  exact same_of (some_set s1)
 ·
  iterate 6 rw [Zo _ _ _ _ (by simp)]
  exact same_of (some_set (some_set s2))
 ·
  iterate 5 rw [Zo _ _ _ _ (by simp)]
  exact same_of (some_set (some_set (some_set s3)))
 ·
  iterate 4 rw [Zo _ _ _ _ (by simp)]
  exact same_of (some_set (some_set (some_set (some_set s4))))
 ·
  iterate 3 rw [Zo _ _ _ _ (by simp)]
  exact same_of (some_set (some_set (some_set (some_set (some_set s5)))))
 ·
  iterate 2 rw [Zo _ _ _ _ (by simp)]
  exact same_of (some_set (some_set (some_set (some_set (some_set (some_set s6))))))
 ·
  iterate 1 rw [Zo _ _ _ _ (by simp)]
  exact same_of (some_set (some_set (some_set (some_set (some_set (some_set (some_set s7)))))))
 ·
  exact same_of (some_set (some_set (some_set (some_set (some_set (some_set (some_set (some_set s8))))))))
structure SR (W:World) (g:Nat) (l:List Triple) (w:World):Prop where
 grown:W.grownBy w (some g)
 cells:∀ i (h:i < l.length),C9 w g (i * 9) l[i]
 free:∀ j,j < l.length * 9 -> w.frozen? ⟨g,j,none⟩ = false
theorem SR.drewN {W w:World} {g:Nat} {l:List Triple} (h:SR W g l w) (n:Nat):SR W g l (w.drewN n):=
 ⟨⟨h.grown.os,h.grown.tape,h.grown.output,h.grown.size,h.grown.block⟩,fun i hi=>(h.cells i hi).moved rfl,h.free⟩
theorem SR.drew {W w:World} {g:Nat} {l:List Triple} (h:SR W g l w):SR W g l w.drew:=h.drewN 1
theorem SR.below {W w w':World} {g:Nat} {l:List Triple} (h:SR W g l w) (hg:g < w.heap.size) (hb:Below w.heap.size w w'):SR W g l w':=
 ⟨h.grown.trans ⟨hb.os,hb.tape,hb.output,hb.size,fun k hk _=>hb.block k hk⟩,fun i hi=>(h.cells i hi).below hb,fun j hj=>(hb.frozen (p:=⟨g,j,none⟩) hg).trans (h.free j hj)⟩
def swapL (l:List Triple) (i j:Nat):List Triple:=(l.set i (l.getD j Ref5.zeroTr)).set j (l.getD i Ref5.zeroTr)
theorem swapL_length (l:List Triple) (i j:Nat):(swapL l i j).length = l.length:=by simp [swapL]
theorem swapL_get (l:List Triple) (i j k:Nat) (hi:i < l.length) (hj:j < l.length):(swapL l i j)[k]? = if k = j then l[i]? else if k = i then l[j]? else l[k]?:=by
 unfold swapL;rw [List.getElem?_set,List.getElem?_set,List.length_set,List.getD_eq_getElem?_getD,List.getD_eq_getElem?_getD,Zg hi,Zg hj];by_cases e1:k = j
 ·
  subst e1;rw [if_pos rfl,if_pos rfl,if_pos hj]
  try rfl
 ·
  rw [if_neg (fun e=>e1 e.symm),if_neg e1];by_cases e2:k = i
  ·
   subst e2;rw [if_pos rfl,if_pos rfl,if_pos hi]
   try rfl
  ·
   rw [if_neg (fun e=>e2 e.symm),if_neg e2]
theorem get_of {l:List Triple} {k:Nat} (h:k < l.length) {x:Triple} (hx:l[k]? = some x):l[k] = x:=by
 rw [Zg h] at hx;exact Option.some.inj hx
theorem SR.swap {W w:World} {g:Nat} {l:List Triple} (h:SR W g l w) (i j:Nat) (hi:i < l.length) (hj:j < l.length):SR W g (swapL l i j) (put9 (put9 w g (i * 9) l[j]) g (j * 9) l[i]):=by
 have hlen:=swapL_length l i j;refine ⟨h.grown.trans ((put9_grown _ _ _ _).trans (put9_grown _ _ _ _)),fun k hk=>?_,fun q hq=>?_⟩
 ·
  have hk':k < l.length:=by omega
  have hget:=swapL_get l i j k hi hj;have apart:∀ {w:World} {x y:Nat} {t t':Triple},x ≠ y -> C9 w g (x * 9) t' -> C9 (put9 w g (y * 9) t) g (x * 9) t':=fun {w x y t t'} hne hc=>by
   have far:∀ d,d < 9 -> (x * 9 + d < y * 9 \/ y * 9 + 9 <= x * 9 + d):=fun d hd=>by omega
   exact ⟨(put9_other _ _ _ _ _ (far 0 (by omega))).trans hc.c0,(put9_other _ _ _ _ _ (far 1 (by omega))).trans hc.c1,(put9_other _ _ _ _ _ (far 2 (by omega))).trans hc.c2,
    (put9_other _ _ _ _ _ (far 3 (by omega))).trans hc.c3,(put9_other _ _ _ _ _ (far 4 (by omega))).trans hc.c4,(put9_other _ _ _ _ _ (far 5 (by omega))).trans hc.c5,
    (put9_other _ _ _ _ _ (far 6 (by omega))).trans hc.c6,(put9_other _ _ _ _ _ (far 7 (by omega))).trans hc.c7,(put9_other _ _ _ _ _ (far 8 (by omega))).trans hc.c8⟩
  by_cases e1:k = j
  ·
   rw [if_pos e1,Zg hi] at hget;rw [get_of hk hget];subst e1;by_cases e3:i = k
   ·
    subst e3;exact put9_same (put9_same (h.cells i hi) _) _
   ·
    exact put9_same (apart (fun e=>e3 e.symm) (h.cells k hk')) _
  ·
   rw [if_neg e1] at hget;by_cases e2:k = i
   ·
    rw [if_pos e2,Zg hj] at hget;rw [get_of hk hget];subst e2;exact apart e1 (put9_same (h.cells k hk') _)
   ·
    rw [if_neg e2,Zg hk'] at hget;rw [get_of hk hget];exact apart e1 (apart e2 (h.cells k hk'))
 ·
  rw [put9_frozen,put9_frozen];exact h.free q (by rw [hlen] at hq;exact hq)
end SortW
namespace SortW
open Go.RowKit Go.Lib B Rd Utf TermPure LinesPure Tx Env Tri SortP Print Cmp Long
def F (l:List Triple) (a b k q:Nat):Option Triple:=if a <= q/\q < a + k then l[q - a + b]? else if b <= q/\q < b + k then l[q - b + a]? else l[q]?
theorem F_zero (l:List Triple) (a b q:Nat):F l a b 0 q = l[q]?:=by
 unfold F;rw [if_neg (by omega),if_neg (by omega)]
theorem F_step {l l':List Triple} {a b n k:Nat} (h1:a + n <= b) (h2:b + n <= l.length) (hk:k < n) (hlen:l'.length = l.length) (hl:∀ q,l'[q]? = F l a b k q):∀ q,(swapL l' (a + k) (b + k))[q]? = F l a b (k + 1) q:=by
 intro q;rw [swapL_get l' _ _ _ (by omega) (by omega),hl,hl,hl];unfold F;by_cases e1:q = b + k
 ·
  subst e1;rw [if_pos rfl,if_neg (by omega),if_neg (by omega),if_neg (by omega),if_pos (by omega)];congr 1;omega
 ·
  rw [if_neg e1];by_cases e2:q = a + k
  ·
   subst e2;rw [if_pos rfl,if_neg (by omega),if_neg (by omega),if_pos (by omega)];congr 1;omega
  ·
   rw [if_neg e2];by_cases e3:a <= q/\q < a + k
   ·
    rw [if_pos e3,if_pos (by omega)]
   ·
    rw [if_neg e3,if_neg (by omega:¬ (a <= q/\q < a + (k + 1)))];by_cases e4:b <= q/\q < b + k
    ·
     rw [if_pos e4,if_pos (by omega)]
    ·
     rw [if_neg e4,if_neg (by omega)]
theorem F_parts (P X M Y Q l':List Triple) (hXY:X.length = Y.length) (hl:∀ q,l'[q]? = F (P ++ (X ++ (M ++ (Y ++ Q)))) P.length (P.length + X.length + M.length) X.length q):l' = P ++ (Y ++ (M ++ (X ++ Q))):=by
 apply List.ext_getElem?;intro q;rw [hl];unfold F;simp only [List.getElem?_append];by_cases c1:q < P.length
 ·
  rw [if_neg (by omega),if_neg (by omega)];simp only [c1,if_true]
 ·
  by_cases c2:q < P.length + X.length
  ·
   rw [if_pos (by omega)];rw [if_neg (by omega),if_neg (by omega),if_neg (by omega),if_pos (by omega),if_neg c1,if_pos (by omega)];congr 1;omega
  ·
   by_cases c3:q < P.length + X.length + M.length
   ·
    rw [if_neg (by omega),if_neg (by omega)];rw [if_neg c1,if_neg (by omega),if_pos (by omega),if_neg c1,if_neg (by omega),if_pos (by omega)];congr 1;omega
   ·
    by_cases c4:q < P.length + X.length + M.length + X.length
    ·
     rw [if_neg (by omega),if_pos (by omega)];rw [if_neg (by omega),if_pos (by omega),if_neg c1,if_neg (by omega),if_neg (by omega),if_pos (by omega)];congr 1;omega
    ·
     rw [if_neg (by omega),if_neg (by omega)];rw [if_neg c1,if_neg (by omega),if_neg (by omega),if_neg (by omega),if_neg c1,if_neg (by omega),if_neg (by omega),if_neg (by omega)];congr 1;omega
theorem SR.free9 {W w:World} {g:Nat} {l:List Triple} (h:SR W g l w) (i:Nat) (hi:i < l.length):w.frozen? ⟨g,i * 9,none⟩ = false/\w.frozen? ⟨g,i * 9 + 1,none⟩ = false/\w.frozen? ⟨g,i * 9 + 2,none⟩ = false/\w.frozen? ⟨g,i * 9 + 3,none⟩ = false/\w.frozen? ⟨g,i * 9 + 4,none⟩ = false/\w.frozen? ⟨g,i * 9 + 5,none⟩ = false/\w.frozen? ⟨g,i * 9 + 6,none⟩ = false/\w.frozen? ⟨g,i * 9 + 7,none⟩ = false/\w.frozen? ⟨g,i * 9 + 8,none⟩ = false:=
 ⟨h.free _ (by omega),h.free _ (by omega),h.free _ (by omega),h.free _ (by omega),h.free _ (by omega),h.free _ (by omega),h.free _ (by omega),h.free _ (by omega),h.free _ (by omega)⟩
theorem swapRange_calls (fv:Value) (l:List Triple) (L a b n cap:Nat) (hL:l.length = L) (hLs:L <= 140737488355328) (hab:a + n <= b) (hbn:b + n <= L) (g:Nat) (W w:World) (hS:SR W g l w) :
  Calls Tryz.prog 248 #[.slice (some ⟨g,0,none⟩) L cap,.int .i64 a,.int .i64 b,.int .i64 n,fv] w fun e w' =>
   e = .returned (.tuple #[])/\∃ l',l'.length = L/\(∀ q,l'[q]? = F l a b n q)/\SR W g l' w':=by
 have HS0:=Zz hS;have HLl:=Zz hL;clear hS hL;go_enter func248,ntmps248;go_wp2;go_loopw [10] (fun vi wr=>∃ (k:Nat) (l':List Triple),k <= n/\vi = .int .i64 k/\Hid (l'.length = L/\(∀ q,l'[q]? = F l a b k q)/\SR W g l' wr)) (fun vi _=>n - (intOf vi).toNat)
 case atStart=>exact ⟨0,l,by omega,rfl,Zz ⟨HLl.o,fun q=>(F_zero l a b q).symm,HS0.o⟩⟩
 case round =>
  obtain ⟨k,l',hk,rfl,HR⟩:=hrel;by_cases hlt:k < n
  ·
   have hd:decide (k < n) = true:=dT hlt;have ik:(k:Int) < (n:Int):=by omega
   obtain ⟨ia,hia⟩:∃ ia,ia = a + k:=⟨_,rfl⟩;obtain ⟨ib,hib⟩:∃ ib,ib = b + k:=⟨_,rfl⟩;have ja:(ia:Int) < (L:Int):=by omega
   have jb:(ib:Int) < (L:Int):=by omega
   have hwa:IntKind.i64.wrap ((a:Int) + (k:Int)) = (ia:Int):=by rw [Zw];omega
   have hwb:IntKind.i64.wrap ((b:Int) + (k:Int)) = (ib:Int):=by rw [Zw];omega
   have h9:ia * 9 + 9 <= ib * 9:=by omega
   have D1:∀ e d,d < 9 -> (ib * 9 + e = ia * 9 + d) = False:=fun e d hd=>eq_false (by omega)
   have D2:∀ d,d < 9 -> (ib * 9 = ia * 9 + d) = False:=fun d hd=>eq_false (by omega)
   have D3:∀ e,(ib * 9 + e = ia * 9) = False:=fun e=>eq_false (by omega)
   have D4:(ib * 9 = ia * 9) = False:=eq_false (by omega);have D5:∀ e d,d < 9 -> (ia * 9 + d = ib * 9 + e) = False:=fun e d hd=>eq_false (by omega)
   have D6:∀ d,d < 9 -> (ia * 9 + d = ib * 9) = False:=fun d hd=>eq_false (by omega)
   have D7:∀ e,(ia * 9 = ib * 9 + e) = False:=fun e=>eq_false (by omega)
   have D8:(ia * 9 = ib * 9) = False:=eq_false (by omega);clear h9;have hla:ia < l'.length:=by rw [HR.o.1];omega
   have hlb:ib < l'.length:=by rw [HR.o.1];omega
   have HStep:=Zz (F_step hab (by rw [HLl.o];exact hbn) hlt (HR.o.1.trans HLl.o.symm) HR.o.2.1);rw [<- hia,<- hib] at HStep;have HLen:=Zz ((swapL_length l' ia ib).trans HR.o.1);obtain ⟨fa0,fa1,fa2,fa3,fa4,fa5,fa6,fa7,fa8⟩:=HR.o.2.2.free9 ia hla;obtain ⟨fb0,fb1,fb2,fb3,fb4,fb5,fb6,fb7,fb8⟩:=HR.o.2.2.free9 ib hlb;have hca:=HR.o.2.2.cells ia hla;have hcb:=HR.o.2.2.cells ib hlb;have HSW:=Zz (SR.drew (HR.o.2.2.swap ia ib hla hlb));obtain ⟨X,hX⟩:∃ X,X = l'[ia]:=⟨_,rfl⟩;obtain ⟨Y,hY⟩:∃ Y,Y = l'[ib]:=⟨_,rfl⟩;rw [<- hX] at hca HSW;rw [<- hY] at hcb HSW;clear hX hY hia hib hla hlb;obtain ⟨⟨sk,sx,se⟩,⟨pk,px,pe⟩,⟨ok,ox,oe⟩⟩:=X;obtain ⟨⟨sk',sx',se'⟩,⟨pk',px',pe'⟩,⟨ok',ox',oe'⟩⟩:=Y;unfold put9 at HSW;dsimp only at HSW;obtain ⟨ca0,ca1,ca2,ca3,ca4,ca5,ca6,ca7,ca8⟩:=hca;obtain ⟨cb0,cb1,cb2,cb3,cb4,cb5,cb6,cb7,cb8⟩:=hcb;dsimp only at ca0 ca1 ca2 ca3 ca4 ca5 ca6 ca7 ca8 cb0 cb1 cb2 cb3 cb4 cb5 cb6 cb7 cb8;go_upto_region 3 with fail
   go_big_region
   all_goals go_wp2
   go_roundw
   case rel=>exact ⟨k + 1,_,by omega,by go_num,Zz ⟨HLen.o,HStep.o,HSW.o⟩⟩
   case measure=>simp [intOf];omega
  ·
   have hd:decide (k < n) = false:=dF hlt;obtain rfl:k = n:=by omega
   go_wp2;go_end0;exact ⟨rfl,_,HR.o.1,HR.o.2.1,HR.o.2.2⟩
end SortW
namespace SortW
open Go.RowKit Go.Lib B Rd Utf TermPure LinesPure Tx Env Tri SortP Print Cmp Long
theorem swapParts_calls (fv:Value) (P X M Y Q:List Triple) (hXY:X.length = Y.length) (L:Nat) (hL:(P ++ (X ++ (M ++ (Y ++ Q)))).length = L) (hLs:L <= 140737488355328) (a b n cap:Nat) (ha:a = P.length) (hn:n = X.length) (hb:b = a + n + M.length) (g:Nat) (W w:World)
  (hS:SR W g (P ++ (X ++ (M ++ (Y ++ Q)))) w) :
  Calls Tryz.prog 248 #[.slice (some ⟨g,0,none⟩) L cap,.int .i64 a,.int .i64 b,.int .i64 n,fv] w fun e w'=>e = .returned (.tuple #[])/\SR W g (P ++ (Y ++ (M ++ (X ++ Q)))) w':=by
 have hlen:=hL;simp only [Zl] at hlen;refine (swapRange_calls fv _ L a b n cap hL hLs (by omega) (by omega) g W w hS).mono ?_;rintro e w' ⟨h1,l',h2,h3,h4⟩;refine ⟨h1,?_⟩;rw [F_parts P X M Y Q l' hXY (fun q=>by rw [h3,hb,hn,ha])] at h4;exact h4
theorem rotate_calls (fv:Value) (P X Y Q:List Triple) (hX:0 < X.length) (hY:0 < Y.length) (L:Nat) (hL:(P ++ (X ++ (Y ++ Q))).length = L) (hLs:L <= 140737488355328) (a m b cap:Nat) (ha:a = P.length) (hm:m = a + X.length) (hb:b = m + Y.length) (g:Nat) (W w:World)
  (hS:SR W g (P ++ (X ++ (Y ++ Q))) w) :
  Calls Tryz.prog 228 #[.slice (some ⟨g,0,none⟩) L cap,.int .i64 a,.int .i64 m,.int .i64 b,fv] w fun e w'=>e = .returned (.tuple #[])/\SR W g (P ++ (Y ++ (X ++ Q))) w':=by
 have hlen:=hL;simp only [Zl] at hlen;have HS0:=Zz hS;have HL:=Zz hL;obtain ⟨nx,hnx⟩:∃ nx,nx = X.length:=⟨_,rfl⟩;obtain ⟨ny,hny⟩:∃ ny,ny = Y.length:=⟨_,rfl⟩;have HN:=Zz (show X.length = nx/\Y.length = ny/\P.length + nx = m from ⟨hnx.symm,hny.symm,by omega⟩);have w1:IntKind.i64.wrap ((m:Int) - (a:Int)) = (nx:Int):=by rw [Zw];omega
 have w2:IntKind.i64.wrap ((b:Int) - (m:Int)) = (ny:Int):=by rw [Zw];omega
 have b1:0 < nx:=by omega
 have b2:0 < ny:=by omega
 have b3:nx <= m:=by omega
 have b4:m + ny <= L:=by omega
 obtain ⟨T,hT⟩:∃ T,T = P ++ (Y ++ (X ++ Q)):=⟨_,rfl⟩;rw [<- hT];have HT:=Zz hT;clear hS hL hlen hX hY ha hm hb hnx hny hT;go_enter func228,ntmps228;go_wp2;go_loopw [10,11] (fun vi vj wr=>∃ (i j:Nat) (P' X' Y' Q':List Triple),vi = .int .i64 i/\vj = .int .i64 j/\0 < i/\0 < j/\i <= m/\m + j <= L /\
  Hid (X'.length = i/\Y'.length = j/\P'.length + i = m)/\Hid ((P' ++ (X' ++ (Y' ++ Q'))).length = L)/\Hid (T = P' ++ (Y' ++ (X' ++ Q')))/\Hid (SR W g (P' ++ (X' ++ (Y' ++ Q'))) wr)) (fun vi vj _=>(intOf vi).toNat + (intOf vj).toNat)
 case atStart=>exact ⟨nx,ny,P,X,Y,Q,rfl,rfl,b1,b2,b3,b4,HN,HL,HT,HS0⟩
 case round =>
  obtain ⟨i,j,P',X',Y',Q',rfl,rfl,hi,hj,him,hmj,HN',HL',HT',HS'⟩:=hrel;clear w1 w2 b1 b2 b3 b4 HN HL HT HS0;obtain ⟨mi,hmi⟩:∃ mi,mi = m - i:=⟨_,rfl⟩;have w1:IntKind.i64.wrap ((m:Int) - (i:Int)) = (mi:Int):=by rw [Zw];omega
  by_cases hij:i = j
  ·
   subst hij;have hne:((i:Int) != (i:Int)) = false:=by simp
   have HC:=Zz (swapParts_calls fv P' X' [] Y' Q' (by rw [HN'.o.1,HN'.o.2.1]) L HL'.o hLs mi m i cap (by have:=HN'.o.2.2;omega) HN'.o.1.symm (by simp;omega) g W wr HS'.o);clear hmi;go_wp2_with fail;refine HC.o.mono ?_;rintro e w2 ⟨rfl,hS2⟩;have HS2:=Zz hS2;clear hS2;go_wp2;go_end0;exact ⟨rfl,by rw [HT'.o];exact HS2.o⟩
  ·
   have hne:((i:Int) != (j:Int)) = true:=by rw [bne_iff_ne];omega
   by_cases hgt:j < i
   ·
    have hd:decide (j < i) = true:=dT hgt;have w3:IntKind.i64.wrap ((i:Int) - (j:Int)) = ((i - j:Nat):Int):=by rw [Zw];omega
    have hsplit:X' = X'.take j ++ X'.drop j:=(List.take_append_drop j X').symm;have hl1:(X'.take j).length = j:=by rw [Zi,HN'.o.1];omega
    have hl2:(X'.drop j).length = i - j:=by rw [Zj,HN'.o.1]
    have HP:=Zz (show X'.length = i/\Y'.length = j/\P'.length + i = m from HN'.o);have HLx:=Zz HL'.o;have HTx:=Zz HT'.o;have HSx:=Zz HS'.o;generalize hX1:X'.take j = X1 at *;generalize hX2:X'.drop j = X2 at *;rw [hsplit] at HLx HTx HSx;have HC:=Zz (swapParts_calls fv P' X1 X2 Y' Q' (by rw [hl1,HP.o.2.1]) L (by have:=HLx.o;rw [Za] at this;exact this) hLs mi m j cap (by have:=HP.o.2.2;omega) hl1.symm (by rw [hl2];omega) g W wr (by have:=HSx.o;rw [Za] at this;exact this));have HN2:Hid (X2.length = i - j/\X1.length = j/\(P' ++ Y').length + (i - j) = m):=Zz ⟨hl2,hl1,by rw [Zl,HP.o.2.1];have:=HP.o.2.2;omega⟩;have HL2:Hid (((P' ++ Y') ++ (X2 ++ (X1 ++ Q'))).length = L):=Zz (by have:=HLx.o;simp only [Zl] at this |-;omega);have HT2:Hid (T = (P' ++ Y') ++ (X1 ++ (X2 ++ Q'))):=Zz (by rw [HTx.o];simp only [Za]);clear hmi hl1 hl2 hX1 hX2 hsplit;go_wp2_with fail;refine HC.o.mono ?_;rintro e w2 ⟨rfl,hS2⟩;have HS2:Hid (SR W g ((P' ++ Y') ++ (X2 ++ (X1 ++ Q'))) w2):=Zz (by rw [Za];exact hS2);clear hS2;go_wp2;go_roundw
    case rel=>exact ⟨i - j,j,P' ++ Y',X2,X1,Q',by go_num,rfl,by omega,hj,by omega,hmj,HN2,HL2,HT2,HS2⟩
    case measure=>simp [intOf];omega
   ·
    have hd:decide (j < i) = false:=dF hgt;have w3:IntKind.i64.wrap ((j:Int) - (i:Int)) = ((j - i:Nat):Int):=by rw [Zw];omega
    obtain ⟨mj,hmj2⟩:∃ mj,mj = m + j:=⟨_,rfl⟩;have w4:IntKind.i64.wrap ((m:Int) + (j:Int)) = (mj:Int):=by rw [Zw];omega
    obtain ⟨mk,hmk⟩:∃ mk,mk = mj - i:=⟨_,rfl⟩;have w5:IntKind.i64.wrap ((mj:Int) - (i:Int)) = (mk:Int):=by rw [Zw];omega
    have hsplit:Y' = Y'.take (j - i) ++ Y'.drop (j - i):=(List.take_append_drop (j - i) Y').symm;have hl1:(Y'.take (j - i)).length = j - i:=by rw [Zi,HN'.o.2.1];omega
    have hl2:(Y'.drop (j - i)).length = i:=by rw [Zj,HN'.o.2.1];omega
    have HP:=Zz (show X'.length = i/\Y'.length = j/\P'.length + i = m from HN'.o);have HLx:=Zz HL'.o;have HTx:=Zz HT'.o;have HSx:=Zz HS'.o;generalize hY1:Y'.take (j - i) = Y1 at *;generalize hY2:Y'.drop (j - i) = Y2 at *;rw [hsplit] at HLx HTx HSx;have HC:=Zz (swapParts_calls fv P' X' Y1 Y2 Q' (by rw [hl2,HP.o.1]) L (by have:=HLx.o;rw [Za] at this;exact this) hLs mi mk i cap (by have:=HP.o.2.2;omega) HP.o.1.symm (by rw [hl1];omega) g W wr (by have:=HSx.o;rw [Za] at this;exact this));have HN2:Hid (Y2.length = i/\Y1.length = j - i/\P'.length + i = m):=Zz ⟨hl2,hl1,HP.o.2.2⟩;have HL2:Hid ((P' ++ (Y2 ++ (Y1 ++ (X' ++ Q')))).length = L):=Zz (by have:=HLx.o;simp only [Zl] at this |-;omega);have HT2:Hid (T = P' ++ (Y1 ++ (Y2 ++ (X' ++ Q')))):=Zz (by rw [HTx.o];simp only [Za]);clear hmi hl1 hl2 hY1 hY2 hsplit hmk hmj2;go_wp2_with fail;refine HC.o.mono ?_;rintro e w2 ⟨rfl,hS2⟩;have HS2:=Zz hS2;clear hS2;go_wp2;go_roundw
    case rel=>exact ⟨i,j - i,P',Y2,Y1,X' ++ Q',rfl,by go_num,hi,by omega,him,by omega,HN2,HL2,HT2,HS2⟩
    case measure=>simp [intOf];omega
end SortW
namespace SortW
open Go.RowKit Go.Lib B Rd Utf TermPure LinesPure Tx Env Tri SortP Print Cmp Long
abbrev Sorted' (l:List Triple):Prop:=l.Pairwise fun a b=>¬ ltT b a
theorem _root_.Go.Proofs.YtnplommdgfgboaaGreatDoor.Long.C9.bel {w:World} {g o:Nat} {t:Triple} (h:Long.C9 w g o t) (p:QT.Bel w):Long.C9 p.w g o t:=
 ⟨p.cell h.c0,p.cell h.c1,p.cell h.c2,p.cell h.c3,p.cell h.c4,p.cell h.c5,p.cell h.c6,p.cell h.c7,p.cell h.c8⟩
theorem swap_adj (A B:List Triple) (x y:Triple):swapL (A ++ (y :: x :: B)) (A.length + 1) A.length = A ++ (x :: y :: B):=by
 apply List.ext_getElem?;intro k;rw [swapL_get _ _ _ _ (by simp) (by simp)];by_cases e1:k = A.length
 ·
  subst e1;rw [if_pos rfl,List.getElem?_append_right (by omega),List.getElem?_append_right (by omega)];simp
 ·
  rw [if_neg e1];by_cases e2:k = A.length + 1
  ·
   subst e2;rw [if_pos rfl,List.getElem?_append_right (by omega),List.getElem?_append_right (by omega)];simp
  ·
   rw [if_neg e2];by_cases e3:k < A.length
   ·
    rw [List.getElem?_append_left e3,List.getElem?_append_left e3]
   ·
    rw [List.getElem?_append_right (by omega),List.getElem?_append_right (by omega)];obtain ⟨d,hd⟩:∃ d,k - A.length = d + 2:=⟨k - A.length - 2,by omega⟩;rw [hd];simp
theorem ins_done {S1 S2:List Triple} {x:Triple} (h:Sorted' (S1 ++ S2)) (h2:∀ y ∈ S2,ltT x y) (h1:S1 = [] \/ ∃ S0 y,S1 = S0 ++ [y]/\¬ ltT x y):Sorted' (S1 ++ x :: S2):=by
 obtain ⟨p1,p2,p3⟩:=List.pairwise_append.1 h;refine List.pairwise_append.2 ⟨p1,List.pairwise_cons.2 ⟨fun y hy=>ltT_asymm (h2 y hy),p2⟩,fun u hu v hv=>?_⟩;rcases List.mem_cons.1 hv with rfl | hv
 ·
  rcases h1 with rfl | ⟨S0,y,rfl,hy⟩
  ·
   cases hu
  ·
   rcases Zk.1 hu with hu' | hu'
   ·
    have:=(List.pairwise_append.1 p1).2.2 u hu' y (by simp);exact SortP.le_trans this hy
   ·
    simp at hu';subst hu';exact hy
 ·
  exact p3 u hu v hv
theorem sorted_take1 (A:List Triple):Sorted' (A.take 1):=by
 cases A with
 | nil=>simp
 | cons a A=>simp
def cmpV:Value:=.func (.func 119) #[] #[]
theorem get_at (P S:List Triple) (x:Triple) (Q:List Triple) (j:Nat) (hj:j = P.length + S.length):∃ h:j < (P ++ (S ++ (x :: Q))).length,(P ++ (S ++ (x :: Q)))[j] = x:=by
 subst hj;refine ⟨by simp,?_⟩;apply get_of;rw [<- Za,List.getElem?_append_right (by simp)];simp
theorem insertion_calls (P A Q:List Triple) (L:Nat) (hL:(P ++ (A ++ Q)).length = L) (hLs:L <= 140737488355328) (a b cap:Nat) (ha:a = P.length) (hb:b = a + A.length) (hsm:∀ t ∈ A,SmallT t) (g:Nat) (W w:World)
  (hS:SR W g (P ++ (A ++ Q)) w) :
  Calls Tryz.prog 194 #[.slice (some ⟨g,0,none⟩) L cap,.int .i64 a,.int .i64 b,cmpV] w fun e w'=>e = .returned (.tuple #[])/\∃ R,R.Perm A/\Sorted' R/\SR W g (P ++ (R ++ Q)) w':=by
 have hlen:=hL;simp only [Zl] at hlen;have hbL:b <= L:=by omega
 have HA:=Zz (show a = P.length/\b = a + A.length/\P.length + (A.length + Q.length) = L from ⟨ha,hb,hlen⟩);have HSm:=Zz hsm;have h00:Hid ((A.take 1).Perm (A.take (a + 1 - a))/\Sorted' (A.take 1)/\SR W g (P ++ (A.take 1 ++ (A.drop (a + 1 - a) ++ Q))) w):=Zz (by
  rw [show a + 1 - a = 1 by omega];refine ⟨List.Perm.refl _,sorted_take1 A,?_⟩;rw [<- Za (A.take 1),List.take_append_drop];exact hS)
 have hab:a <= b:=by omega
 clear hS hL hlen ha hb hsm;unfold cmpV;go_enter func194,ntmps194;go_wp2;go_loopw [8] (fun vi wr=>∃ (i:Nat) (S:List Triple),vi = .int .i64 i/\a < i/\i <= b + 1/\Hid (S.Perm (A.take (i - a))/\Sorted' S/\SR W g (P ++ (S ++ (A.drop (i - a) ++ Q))) wr)) (fun vi _=>b + 1 - (intOf vi).toNat)
 case atStart=>exact ⟨a + 1,A.take 1,by go_num,by omega,by omega,h00⟩
 case round =>
  obtain ⟨i,S,rfl,hai,hib,HR⟩:=hrel;clear h00;by_cases hlt:i < b
  ·
   have hd:decide (i < b) = true:=dT hlt;have ib:(i:Int) < (b:Int):=by omega
   have hiA:i - a < A.length:=by have:=HA.o.2.1;omega
   obtain ⟨x,hx⟩:∃ x,x = A[i - a]:=⟨_,rfl⟩;have HX:Hid (SmallT x/\A.drop (i - a) = x :: A.drop (i - a + 1)/\A.take (i - a + 1) = A.take (i - a) ++ [x]/\S.length = i - a/\(∀ t ∈ S,SmallT t)):=Zz (by
    refine ⟨by rw [hx];exact HSm.o _ (Zm hiA),by rw [hx];exact List.drop_eq_getElem_cons hiA,by rw [hx,Zt hiA],?_,fun t ht=>HSm.o t (List.mem_of_mem_take (HR.o.1.mem_iff.1 ht))⟩;rw [HR.o.1.length_eq,Zi];omega)
   have HI0:Hid (S ++ [] = S/\(∀ y ∈ ([]:List Triple),ltT x y)/\SR W g (P ++ (S ++ (x :: ([] ++ (A.drop (i - a + 1) ++ Q))))) wr):=Zz (by
    refine ⟨Ze _,fun y hy=>(by cases hy),?_⟩;have:=HR.o.2.2;rw [HX.o.2.1] at this;exact this)
   clear hx hiA;go_wp2;go_loopw [9] (fun vj wx=>∃ (j:Nat) (S1 S2:List Triple),vj = .int .i64 j/\j <= i/\a <= j/\Hid (j = a + S1.length/\S1 ++ S2 = S/\(∀ y ∈ S2,ltT x y)/\SR W g (P ++ (S1 ++ (x :: (S2 ++ (A.drop (i - a + 1) ++ Q))))) wx)) (fun vj _=>(intOf vj).toNat)
   case atStart=>exact ⟨i,S,[],rfl,by omega,by omega,Zz ⟨by rw [HX.o.2.2.2.1];omega,HI0.o⟩⟩
   case round =>
    obtain ⟨j,S1,S2,rfl,hji,haj,HJ⟩:=hrel;clear HI0;have HDone:Hid ((S1 = [] \/ ∃ S0 y,S1 = S0 ++ [y]/\¬ ltT x y) -> ∃ S',S'.Perm (A.take (i + 1 - a))/\Sorted' S'/\S' = S1 ++ x :: S2):=Zz (fun h=>by
     refine ⟨_,?_,ins_done (by rw [HJ.o.2.1];exact HR.o.2.1) HJ.o.2.2.1 h,rfl⟩;rw [show i + 1 - a = i - a + 1 by omega,HX.o.2.2.1];refine List.Perm.trans List.perm_middle ?_;rw [HJ.o.2.1];exact (List.Perm.cons x HR.o.1).trans (List.perm_append_comm (l₁:=[x])))
    have HRow:Hid (∀ S',S' = S1 ++ x :: S2 -> P ++ (S1 ++ (x :: (S2 ++ (A.drop (i - a + 1) ++ Q)))) = P ++ (S' ++ (A.drop (i + 1 - a) ++ Q))):=Zz (fun S' h=>by
     rw [h,show i + 1 - a = i - a + 1 by omega];simp)
    by_cases hS1:S1 = []
    ·
     have hja:j = a:=by have:=HJ.o.1;rw [hS1] at this;simpa using this
     have hd2:decide (a < j) = false:=dF (by omega);obtain ⟨S',h1,h2,h3⟩:=HDone.o (.inl hS1);have HE:Hid (S'.Perm (A.take (i + 1 - a))/\Sorted' S'/\∀ nq,SR W g (P ++ (S' ++ (A.drop (i + 1 - a) ++ Q))) (wr.drewN nq)):=Zz ⟨h1,h2,fun nq=>by rw [<- HRow.o S' h3];exact HJ.o.2.2.2.drewN nq⟩;clear h1 h2 h3 hS1 hja HDone HRow;go_upto_region 4 with fail
     go_quiet (fail);go_wp2;refine ⟨⟨i + 1,S',by go_num,by omega,by omega,Zz ⟨HE.o.1,HE.o.2.1,HE.o.2.2 _⟩⟩,?_⟩;simp [intOf];omega
    ·
     obtain ⟨S0,y,hSy⟩:∃ S0 y,S1 = S0 ++ [y]:=⟨S1.dropLast,S1.getLast hS1,(List.dropLast_concat_getLast hS1).symm⟩;subst hSy;obtain ⟨jp,hjp⟩:∃ jp,jp = a + S0.length:=⟨_,rfl⟩;have hj1:j = jp + 1:=by have:=HJ.o.1;simp at this;omega
     have hd2:decide (a < j) = true:=dT (by omega);have hwj:IntKind.i64.wrap ((j:Int) - 1) = (jp:Int):=by rw [Zw];omega
     have jL:(j:Int) < (L:Int):=by omega
     have jpL:(jp:Int) < (L:Int):=by omega
     have HEq:Hid (P ++ ((S0 ++ [y]) ++ (x :: (S2 ++ (A.drop (i - a + 1) ++ Q)))) = P ++ (S0 ++ (y :: x :: (S2 ++ (A.drop (i - a + 1) ++ Q))))):=Zz (by simp);have HS9:Hid (SR W g (P ++ (S0 ++ (y :: x :: (S2 ++ (A.drop (i - a + 1) ++ Q))))) wr):=Zz (by rw [<- HEq.o];exact HJ.o.2.2.2);obtain ⟨hjl,hjx⟩:=get_at P (S0 ++ [y]) x (S2 ++ (A.drop (i - a + 1) ++ Q)) j (by rw [HJ.o.1,HA.o.1]);obtain ⟨hpl,hpx⟩:=get_at P S0 y (x :: (S2 ++ (A.drop (i - a + 1) ++ Q))) jp (by rw [hjp,HA.o.1]);have hcj:=HJ.o.2.2.2.cells j hjl;rw [hjx] at hcj;have hcp:=HS9.o.cells jp hpl;rw [hpx] at hcp;have hjl2:j < (P ++ (S0 ++ (y :: x :: (S2 ++ (A.drop (i - a + 1) ++ Q))))).length:=by rw [<- HEq.o];exact hjl
     have hjx2:(P ++ (S0 ++ (y :: x :: (S2 ++ (A.drop (i - a + 1) ++ Q)))))[j] = x:=by
      have key:∀ (l':List Triple) (h':P ++ ((S0 ++ [y]) ++ (x :: (S2 ++ (A.drop (i - a + 1) ++ Q)))) = l') (hb:j < l'.length),l'[j] = x:=by
       rintro l' rfl hb;exact hjx
      exact key _ HEq.o hjl2
     have HSwF:Hid (∀ w2,SR W g (P ++ (S0 ++ (y :: x :: (S2 ++ (A.drop (i - a + 1) ++ Q))))) w2 -> SR W g (P ++ (S0 ++ (x :: ((y :: S2) ++ (A.drop (i - a + 1) ++ Q))))) (put9 (put9 w2 g (j * 9) y) g (jp * 9) x).drew):=Zz (fun w2 hS2=>by
      have hSw:=hS2.swap j jp hjl2 hpl;rw [hjx2,hpx,show j = (P ++ S0).length + 1 by rw [hj1,hjp,HA.o.1,Zl],show jp = (P ++ S0).length by rw [hjp,HA.o.1,Zl]] at hSw;rw [<- Za P S0,swap_adj,Za,show (P ++ S0).length + 1 = j by rw [hj1,hjp,HA.o.1,Zl],show (P ++ S0).length = jp by rw [hjp,HA.o.1,Zl]] at hSw;exact hSw.drew)
     have HFree:Hid (∀ w2,SR W g (P ++ (S0 ++ (y :: x :: (S2 ++ (A.drop (i - a + 1) ++ Q))))) w2 -> (∀ d,d < 9 -> w2.frozen? ⟨g,j * 9 + d,none⟩ = false/\w2.frozen? ⟨g,jp * 9 + d,none⟩ = false)):=Zz (fun w2 hS2 d hd=>⟨hS2.free _ (by omega),hS2.free _ (by omega)⟩);have HC:=Zz (fun w=>cmp_calls x y HX.o.1 (HX.o.2.2.2.2 y (by rw [<- HJ.o.2.1];simp)) w);have hgl:g < wr.heap.size:=hcj.lt;have HBk:Hid (∀ w2,Below wr.heap.size wr w2 -> SR W g (P ++ ((S0 ++ [y]) ++ (x :: (S2 ++ (A.drop (i - a + 1) ++ Q))))) w2):=Zz (fun w2 hb=>HJ.o.2.2.2.below hgl hb);have HLt:Hid (cmpT x y < 0 ↔ ltT x y):=Zz Iff.rfl;obtain ⟨v,hv⟩:∃ v,v = cmpT x y:=⟨_,rfl⟩;rw [<- hv] at HC HLt;have HNext:Hid (ltT x y -> jp = a + S0.length/\S0 ++ (y :: S2) = S/\(∀ z ∈ (y :: S2),ltT x z)):=Zz (fun hxy=>⟨hjp,by rw [<- HJ.o.2.1];simp,fun z hz=>by
      rcases List.mem_cons.1 hz with rfl | hz
      ·
       exact hxy
      ·
       exact HJ.o.2.2.1 z hz⟩)
     have hjp9:jp * 9 + 9 <= j * 9:=by omega
     have hapj:a <= jp:=by omega
     have hjpj:jp < j:=by omega
     have HIdx:Hid (SR W g (P ++ (S0 ++ (y :: x :: (S2 ++ (A.drop (i - a + 1) ++ Q))))) wr):=HS9;clear hv hjl hpl hjx hpx hjl2 hjx2 hj1 hjp hS1 HEq;by_cases hvn:v < 0
     ·
      -- less: they change places
      have hvd:decide (v < 0) = true:=dT hvn;have hxy:Hid (ltT x y):=Zz (HLt.o.1 hvn);obtain ⟨⟨sk,sx,se⟩,⟨pk,px,pe⟩,⟨ok,ox,oe⟩⟩:=x;obtain ⟨⟨sk',sx',se'⟩,⟨pk',px',pe'⟩,⟨ok',ox',oe'⟩⟩:=y;have x0:=fun p=>(hcj.bel p).c0
      have x1:=fun p=>(hcj.bel p).c1
      have x2:=fun p=>(hcj.bel p).c2
      have x3:=fun p=>(hcj.bel p).c3
      have x4:=fun p=>(hcj.bel p).c4
      have x5:=fun p=>(hcj.bel p).c5
      have x6:=fun p=>(hcj.bel p).c6
      have x7:=fun p=>(hcj.bel p).c7
      have x8:=fun p=>(hcj.bel p).c8
      have y0:=fun p=>(hcp.bel p).c0
      have y1:=fun p=>(hcp.bel p).c1
      have y2:=fun p=>(hcp.bel p).c2
      have y3:=fun p=>(hcp.bel p).c3
      have y4:=fun p=>(hcp.bel p).c4
      have y5:=fun p=>(hcp.bel p).c5
      have y6:=fun p=>(hcp.bel p).c6
      have y7:=fun p=>(hcp.bel p).c7
      have y8:=fun p=>(hcp.bel p).c8
      dsimp only at x0 x1 x2 x3 x4 x5 x6 x7 x8 y0 y1 y2 y3 y4 y5 y6 y7 y8;unfold Ref5.tripleV at HC;dsimp only at HC;go_upto_region 4 with fail
      refine QT.region_all (by kernel_rfl) (by kernel_rfl) ?_
      iterate 14 (go_big_quiet_step (fail))
      go_big_quiet_step (exact QT.Bel.call _ (HC.o _))
      iterate 2 (go_big_quiet_step (fail))
      refine wpQuiet_nil ?_;intro w2 hw';obtain ⟨⟨_,hb⟩,rfl⟩:=hw';have HS2:=Zz (HIdx.o.below hgl hb);have HSW:=Zz (HSwF.o w2 HS2.o);unfold put9 at HSW;dsimp only at HSW;have f0:=(HFree.o w2 HS2.o 0 (by omega)).1;have e0:=(HFree.o w2 HS2.o 0 (by omega)).2;have f1:=(HFree.o w2 HS2.o 1 (by omega)).1;have e1:=(HFree.o w2 HS2.o 1 (by omega)).2;have f2:=(HFree.o w2 HS2.o 2 (by omega)).1;have e2:=(HFree.o w2 HS2.o 2 (by omega)).2;have f3:=(HFree.o w2 HS2.o 3 (by omega)).1;have e3:=(HFree.o w2 HS2.o 3 (by omega)).2;have f4:=(HFree.o w2 HS2.o 4 (by omega)).1;have e4:=(HFree.o w2 HS2.o 4 (by omega)).2;have f5:=(HFree.o w2 HS2.o 5 (by omega)).1;have e5:=(HFree.o w2 HS2.o 5 (by omega)).2;have f6:=(HFree.o w2 HS2.o 6 (by omega)).1;have e6:=(HFree.o w2 HS2.o 6 (by omega)).2;have f7:=(HFree.o w2 HS2.o 7 (by omega)).1;have e7:=(HFree.o w2 HS2.o 7 (by omega)).2;have f8:=(HFree.o w2 HS2.o 8 (by omega)).1;have e8:=(HFree.o w2 HS2.o 8 (by omega)).2;have a0:=(hcj.below hb).c0;have b0:=(hcp.below hb).c0;have a1:=(hcj.below hb).c1;have b1:=(hcp.below hb).c1;have a2:=(hcj.below hb).c2;have b2:=(hcp.below hb).c2;have a3:=(hcj.below hb).c3;have b3:=(hcp.below hb).c3;have a4:=(hcj.below hb).c4;have b4:=(hcp.below hb).c4;have a5:=(hcj.below hb).c5;have b5:=(hcp.below hb).c5;have a6:=(hcj.below hb).c6;have b6:=(hcp.below hb).c6;have a7:=(hcj.below hb).c7;have b7:=(hcp.below hb).c7;have a8:=(hcj.below hb).c8;have b8:=(hcp.below hb).c8;simp only [Nat.add_zero] at f0 e0;clear hb x0 x1 x2 x3 x4 x5 x6 x7 x8 y0 y1 y2 y3 y4 y5 y6 y7 y8 hcj hcp;dsimp only at a0 a1 a2 a3 a4 a5 a6 a7 a8 b0 b1 b2 b3 b4 b5 b6 b7 b8;have D1:∀ e d,d < 9 -> (j * 9 + e = jp * 9 + d) = False:=fun e d hd=>eq_false (by omega)
      have D2:∀ d,d < 9 -> (j * 9 = jp * 9 + d) = False:=fun d hd=>eq_false (by omega)
      have D3:∀ e,(j * 9 + e = jp * 9) = False:=fun e=>eq_false (by omega)
      have D4:(j * 9 = jp * 9) = False:=eq_false (by omega);have D5:∀ e d,d < 9 -> (jp * 9 + d = j * 9 + e) = False:=fun e d hd=>eq_false (by omega)
      have D6:∀ d,d < 9 -> (jp * 9 + d = j * 9) = False:=fun d hd=>eq_false (by omega)
      have D7:∀ e,(jp * 9 = j * 9 + e) = False:=fun e=>eq_false (by omega)
      have D8:(jp * 9 = j * 9) = False:=eq_false (by omega);clear hjp9;go_upto_region 6 with fail
      go_big_region
      all_goals go_wp2
      go_roundw
      case rel=>exact ⟨jp,S0,_ :: S2,by go_num,by omega,by omega,Zz ⟨(HNext.o hxy.o).1,(HNext.o hxy.o).2.1,(HNext.o hxy.o).2.2,HSW.o⟩⟩
      case measure=>simp [intOf];omega
     ·
      have hvd:decide (v < 0) = false:=dF hvn;obtain ⟨S',h1,h2,h3⟩:=HDone.o (.inr ⟨S0,y,rfl,fun h=>hvn (HLt.o.2 h)⟩);have HE:Hid (S'.Perm (A.take (i + 1 - a))/\Sorted' S'/\∀ w2,Below wr.heap.size wr w2 -> SR W g (P ++ (S' ++ (A.drop (i + 1 - a) ++ Q))) w2):=Zz ⟨h1,h2,fun w2 hb=>by rw [<- HRow.o S' h3];exact HBk.o w2 hb⟩;clear h1 h2 h3 HDone HRow hvn;obtain ⟨⟨sk,sx,se⟩,⟨pk,px,pe⟩,⟨ok,ox,oe⟩⟩:=x;obtain ⟨⟨sk',sx',se'⟩,⟨pk',px',pe'⟩,⟨ok',ox',oe'⟩⟩:=y;have x0:=fun p=>(hcj.bel p).c0
      have x1:=fun p=>(hcj.bel p).c1
      have x2:=fun p=>(hcj.bel p).c2
      have x3:=fun p=>(hcj.bel p).c3
      have x4:=fun p=>(hcj.bel p).c4
      have x5:=fun p=>(hcj.bel p).c5
      have x6:=fun p=>(hcj.bel p).c6
      have x7:=fun p=>(hcj.bel p).c7
      have x8:=fun p=>(hcj.bel p).c8
      have y0:=fun p=>(hcp.bel p).c0
      have y1:=fun p=>(hcp.bel p).c1
      have y2:=fun p=>(hcp.bel p).c2
      have y3:=fun p=>(hcp.bel p).c3
      have y4:=fun p=>(hcp.bel p).c4
      have y5:=fun p=>(hcp.bel p).c5
      have y6:=fun p=>(hcp.bel p).c6
      have y7:=fun p=>(hcp.bel p).c7
      have y8:=fun p=>(hcp.bel p).c8
      dsimp only at x0 x1 x2 x3 x4 x5 x6 x7 x8 y0 y1 y2 y3 y4 y5 y6 y7 y8;unfold Ref5.tripleV at HC;dsimp only at HC;go_upto_region 4 with fail
      refine QT.region_all (by kernel_rfl) (by kernel_rfl) ?_
      iterate 14 (go_big_quiet_step (fail))
      go_big_quiet_step (exact QT.Bel.call _ (HC.o _))
      iterate 2 (go_big_quiet_step (fail))
      refine wpQuiet_nil ?_;intro w2 hw';obtain ⟨⟨_,hb⟩,rfl⟩:=hw';have HE2:=Zz (HE.o.2.2 w2 hb);clear hb x0 x1 x2 x3 x4 x5 x6 x7 x8 y0 y1 y2 y3 y4 y5 y6 y7 y8 hcj hcp;go_wp2;refine ⟨⟨i + 1,S',by go_num,by omega,by omega,Zz ⟨HE.o.1,HE.o.2.1,HE2.o⟩⟩,?_⟩;simp [intOf];omega
  ·
   have hd:decide (i < b) = false:=dF hlt;have HV:Hid (∃ R,R.Perm A/\Sorted' R/\SR W g (P ++ (R ++ Q)) wr):=Zz (by
    have h1:A.length <= i - a:=by have:=HA.o.2.1;omega
    obtain ⟨p1,p2,p3⟩:=HR.o;rw [List.take_of_length_le h1] at p1;rw [List.drop_eq_nil_of_le h1,Zf] at p3;exact ⟨S,p1,p2,p3⟩)
   go_wp2;go_end0;exact ⟨rfl,HV.o⟩
end SortW
namespace SortW
open Go.RowKit Go.Lib B Rd Utf TermPure LinesPure SortP
theorem sorted_get {l:List Triple} (h:Sorted' l) {i j:Nat} {u v:Triple} (hij:i <= j) (hi:l[i]? = some u) (hj:l[j]? = some v):¬ ltT v u:=by
 obtain ⟨hi',rfl⟩:=List.getElem?_eq_some_iff.1 hi;obtain ⟨hj',rfl⟩:=List.getElem?_eq_some_iff.1 hj;by_cases e:i = j
 ·
  subst e;exact ltT_irrefl _
 ·
  exact List.pairwise_iff_getElem.1 h i j hi' hj' (by omega)
theorem ins_gen {S1 S2:List Triple} {x:Triple} (h:Sorted' (S1 ++ S2)) (h1:∀ u ∈ S1,¬ ltT x u) (h2:∀ v ∈ S2,¬ ltT v x):Sorted' (S1 ++ x :: S2):=by
 obtain ⟨p1,p2,p3⟩:=List.pairwise_append.1 h;refine List.pairwise_append.2 ⟨p1,List.pairwise_cons.2 ⟨h2,p2⟩,fun u hu v hv=>?_⟩;rcases List.mem_cons.1 hv with rfl | hv
 ·
  exact h1 u hu
 ·
  exact p3 u hu v hv
theorem mem_take_get {l:List Triple} {i:Nat} {u:Triple} (h:u ∈ l.take i):∃ k,k < i/\l[k]? = some u:=by
 obtain ⟨k,hk⟩:=List.mem_iff_getElem?.1 h;rw [List.getElem?_take] at hk
 split at hk
 ·
  rename_i hlt;exact ⟨k,hlt,hk⟩
 ·
  cases hk
theorem mem_drop_get {l:List Triple} {i:Nat} {u:Triple} (h:u ∈ l.drop i):∃ k,i <= k/\l[k]? = some u:=by
 obtain ⟨k,hk⟩:=List.mem_iff_getElem?.1 h;rw [List.getElem?_drop] at hk;exact ⟨i + k,by omega,hk⟩
theorem one_in {B:List Triple} {x:Triple} {i:Nat} (hB:Sorted' B) (h1:i = 0 \/ ∃ y,B[i - 1]? = some y/\¬ ltT x y) (h2:B.length <= i \/ ∃ y,B[i]? = some y/\¬ ltT y x):Sorted' (B.take i ++ x :: B.drop i):=by
 refine ins_gen (by rw [List.take_append_drop];exact hB) (fun u hu=>?_) (fun v hv=>?_)
 ·
  obtain ⟨k,hk,hu⟩:=mem_take_get hu;rcases h1 with h1 | ⟨y,hy,hn⟩
  ·
   omega
  ·
   exact SortP.le_trans (sorted_get hB (by omega) hu hy) hn
 ·
  obtain ⟨k,hk,hv⟩:=mem_drop_get hv;rcases h2 with h2 | ⟨y,hy,hn⟩
  ·
   have:=(List.getElem?_eq_some_iff.1 hv).1;omega
  ·
   exact SortP.le_trans hn (sorted_get hB hk hy hv)
theorem one_perm (B:List Triple) (x:Triple) (i:Nat):(B.take i ++ x :: B.drop i).Perm ([x] ++ B):=by
 refine List.perm_middle.trans ?_;rw [List.take_append_drop];exact List.Perm.refl _
theorem halves {A B R1 R2:List Triple} {s e:Nat} (hA:Sorted' A) (hB:Sorted' B)
  (h1:s = 0 \/ B.length <= e \/ ∃ u v,A[s - 1]? = some u/\B[e]? = some v/\¬ ltT v u) (h2:A.length <= s \/ e = 0 \/ ∃ u v,B[e - 1]? = some u/\A[s]? = some v/\¬ ltT v u)
  (p1:R1.Perm (A.take s ++ B.take e)) (p2:R2.Perm (A.drop s ++ B.drop e)) (s1:Sorted' R1) (s2:Sorted' R2):(R1 ++ R2).Perm (A ++ B)/\Sorted' (R1 ++ R2):=by
 constructor
 ·
  refine (List.Perm.append p1 p2).trans ?_
  conv=>rhs;rw [<- List.take_append_drop s A,<- List.take_append_drop e B]
  simp only [Za];refine List.Perm.append_left _ ?_;rw [<- Za,<- Za];exact List.Perm.append_right _ List.perm_append_comm
 ·
  refine List.pairwise_append.2 ⟨s1,s2,fun x hx y hy=>?_⟩;rcases Zk.1 (p1.mem_iff.1 hx) with hx | hx
  ·
   obtain ⟨k,hk,hx⟩:=mem_take_get hx;rcases Zk.1 (p2.mem_iff.1 hy) with hy | hy
   ·
    obtain ⟨q,hq,hy⟩:=mem_drop_get hy;exact sorted_get hA (by omega) hx hy
   ·
    obtain ⟨q,hq,hy⟩:=mem_drop_get hy;rcases h1 with h1 | h1 | ⟨u,v,hu,hv,hn⟩
    ·
     omega
    ·
     have:=(List.getElem?_eq_some_iff.1 hy).1;omega
    ·
     exact SortP.le_trans (sorted_get hA (by omega) hx hu) (SortP.le_trans hn (sorted_get hB hq hv hy))
  ·
   obtain ⟨k,hk,hx⟩:=mem_take_get hx;rcases Zk.1 (p2.mem_iff.1 hy) with hy | hy
   ·
    obtain ⟨q,hq,hy⟩:=mem_drop_get hy;rcases h2 with h2 | h2 | ⟨u,v,hu,hv,hn⟩
    ·
     have:=(List.getElem?_eq_some_iff.1 hy).1;omega
    ·
     omega
    ·
     exact SortP.le_trans (sorted_get hB (by omega) hx hu) (SortP.le_trans hn (sorted_get hA hq hv hy))
   ·
    obtain ⟨q,hq,hy⟩:=mem_drop_get hy;exact sorted_get hB (by omega) hx hy
theorem swap_up (S T:List Triple) (x y:Triple):swapL (S ++ (x :: y :: T)) S.length (S.length + 1) = S ++ (y :: x :: T):=by
 apply List.ext_getElem?;intro k;rw [swapL_get _ _ _ _ (by simp) (by simp)];by_cases e1:k = S.length + 1
 ·
  subst e1;rw [if_pos rfl,List.getElem?_append_right (by omega),List.getElem?_append_right (by omega)];simp
 ·
  rw [if_neg e1];by_cases e2:k = S.length
  ·
   subst e2;rw [if_pos rfl,List.getElem?_append_right (by omega),List.getElem?_append_right (by omega)];simp
  ·
   rw [if_neg e2];by_cases e3:k < S.length
   ·
    rw [List.getElem?_append_left e3,List.getElem?_append_left e3]
   ·
    rw [List.getElem?_append_right (by omega),List.getElem?_append_right (by omega)];obtain ⟨d,hd⟩:∃ d,k - S.length = d + 2:=⟨k - S.length - 2,by omega⟩;rw [hd];simp
theorem at_A {P A B Q:List Triple} {k:Nat} (h:k < A.length):(P ++ (A ++ (B ++ Q)))[P.length + k]? = A[k]?:=by
 rw [List.getElem?_append_right (by omega),Nat.add_sub_cancel_left,List.getElem?_append_left h]
theorem at_B {P A B Q:List Triple} {k:Nat} (h:k < B.length):(P ++ (A ++ (B ++ Q)))[P.length + A.length + k]? = B[k]?:=by
 rw [List.getElem?_append_right (by omega),List.getElem?_append_right (by omega),List.getElem?_append_left (by omega)];congr 1;omega
end SortW
namespace SortW
open Go.RowKit Go.Lib B Rd Utf TermPure LinesPure Tx Env Tri SortP Print Cmp Long
theorem SR.at {W w:World} {g:Nat} {l:List Triple} (h:SR W g l w) {q:Nat} {t:Triple} (hq:l[q]? = some t):C9 w g (q * 9) t:=by
 obtain ⟨h1,rfl⟩:=List.getElem?_eq_some_iff.1 hq;exact h.cells q h1
theorem sym_left (P B Q:List Triple) (x:Triple) (L:Nat) (hL:(P ++ ([x] ++ (B ++ Q))).length = L) (hLs:L <= 140737488355328) (a m b cap:Nat) (ha:a = P.length) (hm:m = a + 1) (hb:b = m + B.length) (hB:Sorted' B) (hsx:SmallT x) (hsm:∀ t ∈ B,SmallT t) (g:Nat) (W w:World)
  (hS:SR W g (P ++ ([x] ++ (B ++ Q))) w) :
  Calls Tryz.prog 195 #[.slice (some ⟨g,0,none⟩) L cap,.int .i64 a,.int .i64 m,.int .i64 b,cmpV] w fun e w'=>e = .returned (.tuple #[])/\∃ R,R.Perm ([x] ++ B)/\Sorted' R/\SR W g (P ++ (R ++ Q)) w':=by
 have hlen:=hL;simp only [Zl,List.length_singleton] at hlen;have hbL:b <= L:=by omega
 have hmb:m <= b:=by omega
 have ham:a < m:=by omega
 have HA:=Zz (show a = P.length/\m = P.length + 1/\b = m + B.length from ⟨ha,by omega,hb⟩);have HBs:=Zz hB;have HSm:=Zz hsm;have HSx:=Zz hsx;have HS0:=Zz hS;have w0:IntKind.i64.wrap ((m:Int) - (a:Int)) = 1:=by rw [Zw];omega
 clear hS hL hlen ha hb hB hsx hsm hm;unfold cmpV;go_enter func195,ntmps195;go_wp2;go_loopw [10,11] (fun vi vj wr=>∃ i j:Nat,vi = .int .i64 i/\vj = .int .i64 j/\m <= i/\i <= j/\j <= b/\Hid ((i = m \/ ∃ y,B[i - 1 - m]? = some y/\ltT y x)/\(j = b \/ ∃ y,B[j - m]? = some y/\¬ ltT y x)/\SR W g (P ++ ([x] ++ (B ++ Q))) wr)) (fun vi vj _=>(intOf vj).toNat - (intOf vi).toNat)
 case atStart=>exact ⟨m,b,rfl,rfl,by omega,by omega,by omega,Zz ⟨.inl rfl,.inl rfl,HS0.o⟩⟩
 case round =>
  obtain ⟨i,j,rfl,rfl,hmi,hij,hjb,HR⟩:=hrel;clear HS0;by_cases hlt:i < j
  ·
   have hd:decide (i < j) = true:=dT hlt;obtain ⟨h,hh⟩:∃ h,h = (i + j) / 2:=⟨_,rfl⟩;have hq:((i:Int) + (j:Int)) / 2 = (h:Int):=by omega
   have hhb:(h:Int) < (L:Int):=by omega
   have hab:(a:Int) < (L:Int):=by omega
   have hmh:m <= h:=by omega
   have hih:i <= h:=by omega
   have hhj:h < j:=by omega
   clear hh;have hBl:h - m < B.length:=by have:=HA.o.2.2;omega
   obtain ⟨y,hy⟩:∃ y,B[h - m]? = some y:=⟨_,Zg hBl⟩;have hrow:(P ++ ([x] ++ (B ++ Q)))[h]? = some y:=by
    rw [<- hy,<- at_B (P:=P) (A:=[x]) (B:=B) (Q:=Q) hBl];congr 1;have:=HA.o.2.1;simp;omega
   have hrow0:(P ++ ([x] ++ (B ++ Q)))[a]? = some x:=by
    have:=at_A (P:=P) (A:=[x]) (B:=B) (Q:=Q) (k:=0) (by simp);rw [HA.o.1];rw [Nat.add_zero] at this;rw [this]
    try rfl
   have hch:=HR.o.2.2.at hrow;have hca:=HR.o.2.2.at hrow0;have hgl:=hch.lt;have HBk:Hid (∀ w2,Below wr.heap.size wr w2 -> SR W g (P ++ ([x] ++ (B ++ Q))) w2):=Zz (fun w2 hb=>HR.o.2.2.below hgl hb);have HC:=Zz (fun w=>cmp_calls y x (HSm.o y (List.mem_of_getElem? hy)) HSx.o w);have HLt:Hid (cmpT y x < 0 ↔ ltT y x):=Zz Iff.rfl;have HY:=Zz hy;have HI:=Zz HR.o.1;have HJ:=Zz HR.o.2.1;obtain ⟨v,hv⟩:∃ v,v = cmpT y x:=⟨_,rfl⟩;rw [<- hv] at HC HLt;clear hv hy hrow hrow0 hBl HR;by_cases hvn:v < 0
   ·
    have hvd:decide (v < 0) = true:=dT hvn;have HYL:Hid (ltT y x):=Zz (HLt.o.1 hvn);have HI2:Hid (h + 1 = m \/ ∃ y,B[h + 1 - 1 - m]? = some y/\ltT y x):=Zz (.inr ⟨y,by rw [show h + 1 - 1 - m = h - m by omega];exact HY.o,HYL.o⟩);clear hvn HLt HY HYL HI;obtain ⟨⟨sk',sx',se'⟩,⟨pk',px',pe'⟩,⟨ok',ox',oe'⟩⟩:=y;obtain ⟨⟨sk,sx,se⟩,⟨pk,px,pe⟩,⟨ok,ox,oe⟩⟩:=x;have y0:=fun p=>(hch.bel p).c0
    have y1:=fun p=>(hch.bel p).c1
    have y2:=fun p=>(hch.bel p).c2
    have y3:=fun p=>(hch.bel p).c3
    have y4:=fun p=>(hch.bel p).c4
    have y5:=fun p=>(hch.bel p).c5
    have y6:=fun p=>(hch.bel p).c6
    have y7:=fun p=>(hch.bel p).c7
    have y8:=fun p=>(hch.bel p).c8
    have x0:=fun p=>(hca.bel p).c0
    have x1:=fun p=>(hca.bel p).c1
    have x2:=fun p=>(hca.bel p).c2
    have x3:=fun p=>(hca.bel p).c3
    have x4:=fun p=>(hca.bel p).c4
    have x5:=fun p=>(hca.bel p).c5
    have x6:=fun p=>(hca.bel p).c6
    have x7:=fun p=>(hca.bel p).c7
    have x8:=fun p=>(hca.bel p).c8
    dsimp only at y0 y1 y2 y3 y4 y5 y6 y7 y8 x0 x1 x2 x3 x4 x5 x6 x7 x8;unfold Ref5.tripleV at HC;dsimp only at HC;go_upto_region 5 with fail
    refine QT.region_all (by kernel_rfl) (by kernel_rfl) ?_
    iterate 9 (go_big_quiet_step (fail))
    go_big_quiet_step (exact QT.Bel.call _ (HC.o _))
    iterate 1 (go_big_quiet_step (fail))
    refine wpQuiet_nil ?_;intro w2 hw';obtain ⟨⟨_,hb⟩,rfl⟩:=hw';have HS2:=Zz (HBk.o w2 hb);clear hb y0 y1 y2 y3 y4 y5 y6 y7 y8 x0 x1 x2 x3 x4 x5 x6 x7 x8 hch hca;go_wp2;go_roundw
    case rel=>exact ⟨h + 1,j,by go_num,rfl,by omega,by omega,hjb,Zz ⟨HI2.o,HJ.o,HS2.o⟩⟩
    case measure=>simp [intOf];omega
   ·
    have hvd:decide (v < 0) = false:=dF hvn;have HYL:Hid (¬ ltT y x):=Zz (fun hl=>hvn (HLt.o.2 hl));have HJ2:Hid (h = b \/ ∃ y,B[h - m]? = some y/\¬ ltT y x):=Zz (.inr ⟨y,HY.o,HYL.o⟩);clear hvn HLt HY HYL HJ;obtain ⟨⟨sk',sx',se'⟩,⟨pk',px',pe'⟩,⟨ok',ox',oe'⟩⟩:=y;obtain ⟨⟨sk,sx,se⟩,⟨pk,px,pe⟩,⟨ok,ox,oe⟩⟩:=x;have y0:=fun p=>(hch.bel p).c0
    have y1:=fun p=>(hch.bel p).c1
    have y2:=fun p=>(hch.bel p).c2
    have y3:=fun p=>(hch.bel p).c3
    have y4:=fun p=>(hch.bel p).c4
    have y5:=fun p=>(hch.bel p).c5
    have y6:=fun p=>(hch.bel p).c6
    have y7:=fun p=>(hch.bel p).c7
    have y8:=fun p=>(hch.bel p).c8
    have x0:=fun p=>(hca.bel p).c0
    have x1:=fun p=>(hca.bel p).c1
    have x2:=fun p=>(hca.bel p).c2
    have x3:=fun p=>(hca.bel p).c3
    have x4:=fun p=>(hca.bel p).c4
    have x5:=fun p=>(hca.bel p).c5
    have x6:=fun p=>(hca.bel p).c6
    have x7:=fun p=>(hca.bel p).c7
    have x8:=fun p=>(hca.bel p).c8
    dsimp only at y0 y1 y2 y3 y4 y5 y6 y7 y8 x0 x1 x2 x3 x4 x5 x6 x7 x8;unfold Ref5.tripleV at HC;dsimp only at HC;go_upto_region 5 with fail
    refine QT.region_all (by kernel_rfl) (by kernel_rfl) ?_
    iterate 9 (go_big_quiet_step (fail))
    go_big_quiet_step (exact QT.Bel.call _ (HC.o _))
    iterate 1 (go_big_quiet_step (fail))
    refine wpQuiet_nil ?_;intro w2 hw';obtain ⟨⟨_,hb⟩,rfl⟩:=hw';have HS2:=Zz (HBk.o w2 hb);clear hb y0 y1 y2 y3 y4 y5 y6 y7 y8 x0 x1 x2 x3 x4 x5 x6 x7 x8 hch hca;go_wp2;go_roundw
    case rel=>exact ⟨i,h,rfl,by go_num,hmi,by omega,by omega,Zz ⟨HI.o,HJ2.o,HS2.o⟩⟩
    case measure=>simp [intOf];omega
  ·
   have hd:decide (i < j) = false:=dF hlt;obtain rfl:i = j:=by omega
   obtain ⟨n,hn⟩:∃ n,n = i - m:=⟨_,rfl⟩;obtain ⟨i1,hi1⟩:∃ i1,i1 + 1 = i:=⟨i - 1,by omega⟩;have wi:IntKind.i64.wrap ((i:Int) - 1) = (i1:Int):=by rw [Zw];omega
   have HSorted:Hid (Sorted' (B.take n ++ x :: B.drop n)/\(B.take n ++ x :: B.drop n).Perm ([x] ++ B)/\n <= B.length):=Zz (by
    obtain ⟨h1,h2,_⟩:=HR.o;refine ⟨one_in HBs.o ?_ ?_,one_perm B x n,by have:=HA.o.2.2;omega⟩
    ·
     rcases h1 with h1 | ⟨y,hy,hl⟩
     ·
      left;omega
     ·
      right;exact ⟨y,by rw [<- hy];congr 1;omega,ltT_asymm hl⟩
    ·
     rcases h2 with h2 | ⟨y,hy,hl⟩
     ·
      left;have:=HA.o.2.2;omega
     ·
      right;exact ⟨y,by rw [<- hy];congr 1,hl⟩)
   have HR0:Hid (SR W g (P ++ (B.take 0 ++ (x :: (B.drop 0 ++ Q)))) wr):=Zz HR.o.2.2;have hni:n + m = i:=by omega
   clear HR hn;go_wp2;go_loopw [13] (fun vk wr=>∃ k c:Nat,vk = .int .i64 k/\k = a + c/\c <= n/\Hid (SR W g (P ++ (B.take c ++ (x :: (B.drop c ++ Q)))) wr)) (fun vk _=>n + a - (intOf vk).toNat)
   case atStart=>exact ⟨a,0,rfl,by omega,by omega,HR0⟩
   case round =>
    obtain ⟨k,c,rfl,hkc,hcn,HR⟩:=hrel;have HKC:=Zz hkc;clear HR0;by_cases hck:c < n
    ·
     have hd2:decide (k < i1) = true:=dT (by omega);have hd3:(k:Int) < (i1:Int):=by omega
     obtain ⟨k1,hk1⟩:∃ k1,k1 = k + 1:=⟨_,rfl⟩;have wk:IntKind.i64.wrap ((k:Int) + 1) = (k1:Int):=by rw [Zw];omega
     have hkL:(k:Int) < (L:Int):=by omega
     have hk1L:(k1:Int) < (L:Int):=by omega
     have hcB:c < B.length:=Nat.lt_of_lt_of_le hck HSorted.o.2.2;obtain ⟨y,hy⟩:∃ y,y = B[c]:=⟨_,rfl⟩;have hdrop:B.drop c = y :: B.drop (c + 1):=by rw [hy];exact List.drop_eq_getElem_cons hcB
     have htake:B.take (c + 1) = B.take c ++ [y]:=by rw [hy,Zt hcB]
     have hlenT:(P ++ B.take c).length = k:=by rw [Zl,Zi];have:=HA.o.1;omega
     have HS9:SR W g ((P ++ B.take c) ++ (x :: y :: (B.drop (c + 1) ++ Q))) wr:=by
      have:=HR.o;rw [hdrop] at this;rw [Za];exact this
     have gx:((P ++ B.take c) ++ (x :: y :: (B.drop (c + 1) ++ Q)))[k]? = some x:=by rw [List.getElem?_append_right (by omega),hlenT];simp
     have gy:((P ++ B.take c) ++ (x :: y :: (B.drop (c + 1) ++ Q)))[k1]? = some y:=by rw [List.getElem?_append_right (by omega),hlenT,show k1 - k = 1 by omega];simp
     obtain ⟨lx,ex⟩:=List.getElem?_eq_some_iff.1 gx;obtain ⟨ly,ey⟩:=List.getElem?_eq_some_iff.1 gy;have HSwF:Hid (SR W g (P ++ (B.take (c + 1) ++ (x :: (B.drop (c + 1) ++ Q)))) (put9 (put9 wr g (k * 9) y) g (k1 * 9) x).drew):=Zz (by
      have hSw:=HS9.swap k k1 lx ly;rw [ex,ey,show k1 = (P ++ B.take c).length + 1 by omega,<- hlenT,swap_up] at hSw;rw [hlenT] at hSw;have h2:=hSw.drew;rw [htake];rw [<- hk1] at h2;simpa [Za] using h2)
     have hcx:=HS9.at gx;have hcy:=HS9.at gy;have fx:=HS9.free9 k lx;have fy:=HS9.free9 k1 ly;have h9:k * 9 + 9 <= k1 * 9:=by omega
     have HK1:=Zz hk1;clear gx gy lx ly ex ey HS9 hlenT htake hdrop hy hcB;obtain ⟨⟨sk',sx',se'⟩,⟨pk',px',pe'⟩,⟨ok',ox',oe'⟩⟩:=y;obtain ⟨⟨sk,sx,se⟩,⟨pk,px,pe⟩,⟨ok,ox,oe⟩⟩:=x;unfold put9 at HSwF;dsimp only at HSwF;obtain ⟨x0,x1,x2,x3,x4,x5,x6,x7,x8⟩:=hcx;obtain ⟨y0,y1,y2,y3,y4,y5,y6,y7,y8⟩:=hcy;obtain ⟨f0,f1,f2,f3,f4,f5,f6,f7,f8⟩:=fx;obtain ⟨e0,e1,e2,e3,e4,e5,e6,e7,e8⟩:=fy;dsimp only at x0 x1 x2 x3 x4 x5 x6 x7 x8 y0 y1 y2 y3 y4 y5 y6 y7 y8;have D1:∀ e d,d < 9 -> (k1 * 9 + e = k * 9 + d) = False:=fun e d hd=>eq_false (by omega)
     have D2:∀ d,d < 9 -> (k1 * 9 = k * 9 + d) = False:=fun d hd=>eq_false (by omega)
     have D3:∀ e,(k1 * 9 + e = k * 9) = False:=fun e=>eq_false (by omega)
     have D4:(k1 * 9 = k * 9) = False:=eq_false (by omega);have D5:∀ e d,d < 9 -> (k * 9 + d = k1 * 9 + e) = False:=fun e d hd=>eq_false (by omega)
     have D6:∀ d,d < 9 -> (k * 9 + d = k1 * 9) = False:=fun d hd=>eq_false (by omega)
     have D7:∀ e,(k * 9 = k1 * 9 + e) = False:=fun e=>eq_false (by omega)
     have D8:(k * 9 = k1 * 9) = False:=eq_false (by omega);clear h9 hkc hk1;go_upto_region 11 with fail
     go_big_region
     all_goals go_wp2
     go_roundw
     case rel=>exact ⟨k1,c + 1,by go_num,by have:=HKC.o;have:=HK1.o;omega,by omega,HSwF⟩
     case measure=>have:=HKC.o;have:=HK1.o;simp [intOf];omega
    ·
     have hd2:decide (k < i1) = false:=dF (by have h1:=HA.o.1;have h2:=HA.o.2.1;omega);have hd3:¬ ((k:Int) < (i1:Int)):=by have h1:=HA.o.1;have h2:=HA.o.2.1;omega
     obtain rfl:c = n:=by omega
     clear hkc;go_wp2
     ((try simp only [Exit.inBlock,Exit.then]);refine bodyPost_ret (results_none rfl _ _ _) rfl ?_)
     exact ⟨rfl,_,HSorted.o.2.1,HSorted.o.1,by rw [Za];exact HR.o⟩
end SortW
end Go.Proofs.YtnplommdgfgboaaGreatDoor
