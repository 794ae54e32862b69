/-
  Texts of the claim, one behind the other: RefEnc, RingC, TermAt, Alike, ParseR, RefParseG, RefLoad, SLoads.
-/
import Derived.Test.YtnplommdgfgboaaGreatDoorK9
set_option linter.unusedVariables false
set_option linter.unusedSimpArgs false
namespace Go.Proofs.YtnplommdgfgboaaGreatDoor.RefEnc
open Go.RowKit Go.Lib B Rd TermPure LinesPure Tri SortP OrdG TermW Cmp StoreW FrontP FrontW PackW StoreP IdsW RefOf Encode
theorem three_any (W:World) (t:TypeId) (a b c:Nat) (ha:a ≤ 1000000) (hb:b ≤ 1000000) (hc:c ≤ 1000000):intK.sl.M (W.alloc (.cells #[.int .i64 (a:Int),.int .i64 (b:Int),.int .i64 (c:Int)] t)) (fun _=>True) [(a:Int),(b:Int),(c:Int)] [.slice (some ⟨W.heap.size,0,none⟩) 3 3]:=by
 refine ⟨some ⟨W.heap.size,0,none⟩,3,rfl,Nat.le_refl _,⟨by simp,by unfold maxLen;omega⟩,fun h=>(by cases h),fun i x hx=>?_⟩
 match i with
 | 0 =>
  simp at hx
  subst hx
  refine ⟨_,[.int .i64 (a:Int)],rfl,trivial,⟨rfl,by omega⟩,fun j u hu=>?_⟩
  rw [add_plain,World.cell?,Kd.heap_new]
  match j with
  | 0=>simp at hu;subst hu;rfl
  | j + 1=>simp at hu
 | 1 =>
  simp at hx
  subst hx
  refine ⟨_,[.int .i64 (b:Int)],rfl,trivial,⟨rfl,by omega⟩,fun j u hu=>?_⟩
  rw [add_plain,World.cell?,Kd.heap_new]
  match j with
  | 0=>simp at hu;subst hu;rfl
  | j + 1=>simp at hu
 | 2 =>
  simp at hx
  subst hx
  refine ⟨_,[.int .i64 (c:Int)],rfl,trivial,⟨rfl,by omega⟩,fun j u hu=>?_⟩
  rw [add_plain,World.cell?,Kd.heap_new]
  match j with
  | 0=>simp at hu;subst hu;rfl
  | j + 1=>simp at hu
 | i + 3=>simp at hx
theorem refpack_enc {T:List Triple} (h:Valid T) (hl:T.length ≤ 100) (v:Value) (w:World) (m:BoxPack.secK.sl.M w (fun _=>True) (secs2 T) [v]) :
  Calls Tryz.prog 40 #[v] w fun e w'=>(∃ u,e = .returned (.tuple #[u,.int .i64 0])∧byteK.own 5 w' w.heap.size (fun _=>True) u (encT T))∧Below w.heap.size w w':=by
 have h1:=front_len h hl
 have h2:=body_len h hl
 refine (BoxRef.refpack_calls (secs2 T) (by unfold secs2;simp only [BoxPure.total,List.length_cons,List.length_nil];omega) (by unfold secs2;simp) v w m).mono ?_
 rintro e w' ⟨hb,⟨_,u,he,ho⟩ | ⟨hn,_⟩⟩
 ·
  exact ⟨⟨u,he,ho⟩,hb⟩
 ·
  exact absurd (enc_may h hl) hn
set_option maxHeartbeats 12800000 in
set_option maxRecDepth 100000 in
theorem refenc_calls (T:List Triple) (hv:Valid T) (hl:T.length ≤ 100) (g:Nat) (w:World) (ok:Nat → Prop) (h:RefAt w ok g T) :
  Calls Tryz.prog 64 #[.pointer (some ⟨g,0,none⟩)] w fun e w'=>(∃ v,e = .returned v∧byteK.own 5 w' w.heap.size (fun _=>True) v (encT T))∧Below w.heap.size w w':=by
 obtain ⟨A1,c1,hg1,_⟩:=h.terms
 obtain ⟨A2,c2,hg2,hM2⟩:=h.shows
 obtain ⟨A3,c3,hg3,hM3⟩:=h.ids
 have hE:=E_len hv hl
 have HPk:=Lib.hid (refpack_enc hv hl)
 have HBits:=Lib.hid (nums_bits hv hl)
 have HWide:Hid (wide T = Lib.bitLen (termsT T).length∧wide T ≤ 9):=Lib.hid ⟨rfl,wide_le hv hl⟩
 have HShort:=Lib.hid (texts_short hv)
 have HTl:Hid ((texts T).length = (termsT T).length):=Lib.hid (by unfold texts;simp)
 have HIb:Hid (∀ x ∈ idsT T,x.a ≤ 1000∧x.b ≤ 1000∧x.c ≤ 1000):=Lib.hid (fun x hx=>by
  obtain ⟨q1,q2,q3⟩:=Made.good_ids hv hl x hx
  omega)
 have HBl:=Lib.hid (body_len hv hl)
 have hIl:=ids_len T
 have HSecs:Hid (secs2 T = [(1,frontB (texts T)),(2,headN (idsT T).length ++ packB (nums (idsT T)) (wide T))]):=Lib.hid (by rw [hIl];rfl)
 rw [← hIl] at hg3 hM3 hl HBl
 clear hIl
 obtain ⟨I,hI⟩:∃ I,I = idsT T:=⟨_,rfl⟩
 obtain ⟨E,hEe⟩:∃ E,E = termsT T:=⟨_,rfl⟩
 obtain ⟨L,hL⟩:∃ L,L = texts T:=⟨_,rfl⟩
 rw [← hI] at HBits HIb HBl HSecs hg3 hM3 hl
 rw [← hEe] at hE HWide HTl hg1 hg2 hM2
 rw [← hL] at HShort HTl HSecs hM2
 have HRow:=Lib.hid (fun hp=>ids_row hM3 hp)
 rw [← HTl.out] at hM2
 have HG1:=Lib.hid (fun W (hb:Below w.heap.size w W)=>(hb.cell (p:=⟨g,1,none⟩) (cell_lt hg1)).trans hg1)
 have HG2:=Lib.hid (fun W (hb:Below w.heap.size w W)=>(hb.cell (p:=⟨g,2,none⟩) (cell_lt hg2)).trans hg2)
 have HG3:=Lib.hid (fun W (hb:Below w.heap.size w W)=>(hb.cell (p:=⟨g,3,none⟩) (cell_lt hg3)).trans hg3)
 have HMS:=Lib.hid (fun W (hb:Below w.heap.size w W)=>Kd.M_bound (Kd.M_below (Kd.M_bound hM2) hb))
 have HO0:Hid (intK.own 3 w w.heap.size Clones.TT (.slice none 0 0) (natZ (nums (I.take 0)))):=Lib.hid (Kd.own_nil _ _ _ _ _)
 clear hg1 hg2 hg3 hM2 hM3 hI hEe hL h hv
 have hl100:I.length ≤ 100:=hl
 have k3:=HG3.out w (Below.refl _ _)
 go_enter Tryz.func64,Tryz.ntmps64
 go_wp2
 go_loopw [3,4] (fun v3 vk wr=>∃ k:Nat,vk = .int .i64 k∧k ≤ I.length∧Hid (intK.own 3 wr w.heap.size Clones.TT v3 (natZ (nums (I.take k)))∧Below w.heap.size w wr)) (fun _ vk _=>I.length - (intOf vk).toNat)
 case atStart=>exact ⟨0,rfl,by omega,Lib.hid ⟨HO0.out,Below.refl _ _⟩⟩
 case round =>
  obtain ⟨k,rfl,hk,HJ⟩:=hrel
  clear HO0 k3
  obtain ⟨Y,hY⟩:∃ Y,Y = natZ (nums (I.take k)):=⟨_,rfl⟩
  rw [← hY] at HJ
  have HYe:=Lib.hid hY
  clear hY
  obtain ⟨A6,c6,rfl,_,_⟩:=Kd.own_slice HJ.out.1
  have k3:=HG3.out wr HJ.out.2
  by_cases hlt2:k < I.length
  ·
   have hd2:decide (k < I.length) = true:=decide_eq_true hlt2
   have ik2:(k:Int) < (I.length:Int):=by omega
   obtain ⟨b,off,rfl,hbs,hcells⟩:=HRow.out (by omega)
   have hcx:=hcells k hlt2
   have hsn:=nums_snoc I k hlt2
   obtain ⟨x,hx⟩:∃ x,x = I[k]:=⟨_,rfl⟩
   rw [← hx] at hcx hsn
   rw [← HYe.out] at hsn
   have hxb:=HIb.out x (by rw [hx];exact List.getElem_mem hlt2)
   have HSn:=Lib.hid hsn
   have hylen:Y.length ≤ 300:=by rw [HYe.out,natZ_len,nums_len,List.length_take];omega
   have HK:Hid (∀ w',Below w.heap.size w w' → w'.cell? ⟨g,3,none⟩ = some (Value.slice (some ⟨b,off,none⟩) I.length c3)∧w'.cell? ⟨b,off + k * 3,none⟩ = some (Value.int .i64 (x.a:Nat))∧w'.cell? ⟨b,off + k * 3 + 1,none⟩ = some (Value.int .i64 (x.b:Nat))∧w'.cell? ⟨b,off + k * 3 + 2,none⟩ = some (Value.int .i64 (x.c:Nat))):=Lib.hid (fun w' hbb=>by
    have hc:=hcx.below hbb
    have x0:=hc 0 (by decide)
    have x1:=hc 1 (by decide)
    have x2:=hc 2 (by decide)
    simp only [Nat.add_zero,at3] at x0 x1 x2
    exact ⟨HG3.out w' hbb,x0,x1,x2⟩)
   clear hcells hcx hsn hx
   obtain ⟨xa,xb,xc⟩:=x
   dsimp only at HSn hxb HK
   have HThree:=Lib.hid (fun W t=>three_any W t xa xb xc (by omega) (by omega) (by omega))
   have HOw:=Lib.hid HJ.out.1
   have HBw:=Lib.hid HJ.out.2
   have hzw:w.heap.size ≤ wr.heap.size:=HJ.out.2.size
   clear HJ
   go_upto_region 5 with fail
   clear k3
   refine HeldZ.region (fun w'=>w'.cell? ⟨g,3,none⟩ = some (Value.slice (some ⟨b,off,none⟩) I.length c3)∧w'.cell? ⟨b,off + k * 3,none⟩ = some (Value.int .i64 (xa:Nat))∧w'.cell? ⟨b,off + k * 3 + 1,none⟩ = some (Value.int .i64 (xb:Nat))∧w'.cell? ⟨b,off + k * 3 + 2,none⟩ = some (Value.int .i64 (xc:Nat))) 27 28 #[false,false,false,false,false,false,false,false,false,false,false,false,false,false,false,false,false,false,false,false,false,false,false,false,false,false,false,false] (by kernel_rfl) rfl rfl ?_
   intro hinv
   have hS:=HK.out wr.drew (bel_drew HBw.out)
   refine HeldZ.take (v:=?vu1_0) 0 hinv rfl (by kernel_rfl) (by kernel_rfl) (by decide) (by decide) (by kernel_rfl) (by kernel_rfl) (by kernel_rfl) (fun _ _ _ h=>h) hS (Or.inl ⟨by rfl,?hyu1_0⟩) ?_
   case hyu1_0=>(intro w hSw;(try dsimp only at hSw);go_simp;try with_reducible rfl)
   clear hinv
   intro hinv
   try simp only [Act.put,List.setIfInBounds_toArray,List.set_cons_zero,List.set_cons_succ] at hinv ⊢
   refine HeldZ.take (v:=?vu2_1) 1 hinv rfl (by kernel_rfl) (by kernel_rfl) (by decide) (by decide) (by kernel_rfl) (by kernel_rfl) (by kernel_rfl) (fun _ _ _ h=>h) hS (Or.inl ⟨by rfl,?hyu2_1⟩) ?_
   case hyu2_1=>(intro w hSw;(try dsimp only at hSw);go_simp;try with_reducible rfl)
   clear hinv
   intro hinv
   try simp only [Act.put,List.setIfInBounds_toArray,List.set_cons_zero,List.set_cons_succ] at hinv ⊢
   refine HeldZ.take (v:=?vu3_2) 2 hinv rfl (by kernel_rfl) (by kernel_rfl) (by decide) (by decide) (by kernel_rfl) (by kernel_rfl) (by kernel_rfl) (fun _ _ _ h=>h) hS (Or.inl ⟨by rfl,?hyu3_2⟩) ?_
   case hyu3_2=>(intro w hSw;(try dsimp only at hSw);go_simp;try with_reducible rfl)
   clear hinv
   intro hinv
   try simp only [Act.put,List.setIfInBounds_toArray,List.set_cons_zero,List.set_cons_succ] at hinv ⊢
   refine HeldZ.take (v:=?vu4_3) 3 hinv rfl (by kernel_rfl) (by kernel_rfl) (by decide) (by decide) (by kernel_rfl) (by kernel_rfl) (by kernel_rfl) (fun _ _ _ h=>h) hS (Or.inl ⟨by rfl,?hyu4_3⟩) ?_
   case hyu4_3=>(intro w hSw;(try dsimp only at hSw);go_simp;try with_reducible rfl)
   clear hinv
   intro hinv
   try simp only [Act.put,List.setIfInBounds_toArray,List.set_cons_zero,List.set_cons_succ] at hinv ⊢
   refine HeldZ.take (v:=?vu5_4) 4 hinv rfl (by kernel_rfl) (by kernel_rfl) (by decide) (by decide) (by kernel_rfl) (by kernel_rfl) (by kernel_rfl) (fun _ _ _ h=>h) hS (Or.inl ⟨by rfl,?hyu5_4⟩) ?_
   case hyu5_4=>(intro w hSw;(try dsimp only at hSw);go_simp;try with_reducible rfl)
   clear hinv
   intro hinv
   try simp only [Act.put,List.setIfInBounds_toArray,List.set_cons_zero,List.set_cons_succ] at hinv ⊢
   refine HeldZ.take (v:=?vu6_5) 5 hinv rfl (by kernel_rfl) (by kernel_rfl) (by decide) (by decide) (by kernel_rfl) (by kernel_rfl) (by kernel_rfl) (fun _ _ _ h=>h) hS (Or.inl ⟨by rfl,?hyu6_5⟩) ?_
   case hyu6_5=>(intro w hSw;(try dsimp only at hSw);go_simp;try with_reducible rfl)
   clear hinv
   intro hinv
   try simp only [Act.put,List.setIfInBounds_toArray,List.set_cons_zero,List.set_cons_succ] at hinv ⊢
   refine HeldZ.take (v:=?vu7_6) 6 hinv rfl (by kernel_rfl) (by kernel_rfl) (by decide) (by decide) (by kernel_rfl) (by kernel_rfl) (by kernel_rfl) (fun _ _ _ h=>h) hS (Or.inl ⟨by rfl,?hyu7_6⟩) ?_
   case hyu7_6=>(intro w hSw;(try dsimp only at hSw);go_simp;try with_reducible rfl)
   clear hinv
   intro hinv
   try simp only [Act.put,List.setIfInBounds_toArray,List.set_cons_zero,List.set_cons_succ] at hinv ⊢
   refine HeldZ.take (v:=?vu8_7) 7 hinv rfl (by kernel_rfl) (by kernel_rfl) (by decide) (by decide) (by kernel_rfl) (by kernel_rfl) (by kernel_rfl) (fun _ _ _ h=>h) hS (Or.inl ⟨by rfl,?hyu8_7⟩) ?_
   case hyu8_7=>(intro w hSw;(try dsimp only at hSw);go_simp;try with_reducible rfl)
   clear hinv
   intro hinv
   try simp only [Act.put,List.setIfInBounds_toArray,List.set_cons_zero,List.set_cons_succ] at hinv ⊢
   refine HeldZ.take (v:=?vu9_8) 8 hinv rfl (by kernel_rfl) (by kernel_rfl) (by decide) (by decide) (by kernel_rfl) (by kernel_rfl) (by kernel_rfl) (fun _ _ _ h=>h) hS (Or.inl ⟨by rfl,?hyu9_8⟩) ?_
   case hyu9_8=>(intro w hSw;(try dsimp only at hSw);go_simp;try with_reducible rfl)
   clear hinv
   intro hinv
   try simp only [Act.put,List.setIfInBounds_toArray,List.set_cons_zero,List.set_cons_succ] at hinv ⊢
   refine HeldZ.take (v:=?vu10_9) 9 hinv rfl (by kernel_rfl) (by kernel_rfl) (by decide) (by decide) (by kernel_rfl) (by kernel_rfl) (by kernel_rfl) (fun _ _ _ h=>h) hS (Or.inl ⟨by rfl,?hyu10_9⟩) ?_
   case hyu10_9=>(intro w hSw;(try dsimp only at hSw);go_simp;try with_reducible rfl)
   clear hinv
   intro hinv
   try simp only [Act.put,List.setIfInBounds_toArray,List.set_cons_zero,List.set_cons_succ] at hinv ⊢
   refine HeldZ.take (v:=?vu11_10) 10 hinv rfl (by kernel_rfl) (by kernel_rfl) (by decide) (by decide) (by kernel_rfl) (by kernel_rfl) (by kernel_rfl) (fun _ _ _ h=>h) hS (Or.inl ⟨by rfl,?hyu11_10⟩) ?_
   case hyu11_10=>(intro w hSw;(try dsimp only at hSw);go_simp;try with_reducible rfl)
   clear hinv
   intro hinv
   try simp only [Act.put,List.setIfInBounds_toArray,List.set_cons_zero,List.set_cons_succ] at hinv ⊢
   refine HeldZ.take (v:=?vu12_11) 11 hinv rfl (by kernel_rfl) (by kernel_rfl) (by decide) (by decide) (by kernel_rfl) (by kernel_rfl) (by kernel_rfl) (fun _ _ _ h=>h) hS (Or.inl ⟨by rfl,?hyu12_11⟩) ?_
   case hyu12_11=>(intro w hSw;(try dsimp only at hSw);go_simp;try with_reducible rfl)
   clear hinv
   intro hinv
   try simp only [Act.put,List.setIfInBounds_toArray,List.set_cons_zero,List.set_cons_succ] at hinv ⊢
   refine HeldZ.take (v:=?vu13_12) 12 hinv rfl (by kernel_rfl) (by kernel_rfl) (by decide) (by decide) (by kernel_rfl) (by kernel_rfl) (by kernel_rfl) (fun _ _ _ h=>h) hS (Or.inl ⟨by rfl,?hyu13_12⟩) ?_
   case hyu13_12=>(intro w hSw;(try dsimp only at hSw);go_simp;try with_reducible rfl)
   clear hinv
   intro hinv
   try simp only [Act.put,List.setIfInBounds_toArray,List.set_cons_zero,List.set_cons_succ] at hinv ⊢
   refine HeldZ.take (v:=?vu14_13) 13 hinv rfl (by kernel_rfl) (by kernel_rfl) (by decide) (by decide) (by kernel_rfl) (by kernel_rfl) (by kernel_rfl) (fun _ _ _ h=>h) hS (Or.inl ⟨by rfl,?hyu14_13⟩) ?_
   case hyu14_13=>(intro w hSw;(try dsimp only at hSw);go_simp;try with_reducible rfl)
   clear hinv
   intro hinv
   try simp only [Act.put,List.setIfInBounds_toArray,List.set_cons_zero,List.set_cons_succ] at hinv ⊢
   refine HeldZ.take (v:=?vu15_14) 14 hinv rfl (by kernel_rfl) (by kernel_rfl) (by decide) (by decide) (by kernel_rfl) (by kernel_rfl) (by kernel_rfl) (fun _ _ _ h=>h) hS (Or.inl ⟨by rfl,?hyu15_14⟩) ?_
   case hyu15_14=>(intro w hSw;(try dsimp only at hSw);go_simp;try with_reducible rfl)
   clear hinv
   intro hinv
   try simp only [Act.put,List.setIfInBounds_toArray,List.set_cons_zero,List.set_cons_succ] at hinv ⊢
   refine HeldZ.take (v:=?vu16_15) 15 hinv rfl (by kernel_rfl) (by kernel_rfl) (by decide) (by decide) (by kernel_rfl) (by kernel_rfl) (by kernel_rfl) (fun _ _ _ h=>h) hS (Or.inl ⟨by rfl,?hyu16_15⟩) ?_
   case hyu16_15=>(intro w hSw;(try dsimp only at hSw);go_simp;try with_reducible rfl)
   clear hinv
   intro hinv
   try simp only [Act.put,List.setIfInBounds_toArray,List.set_cons_zero,List.set_cons_succ] at hinv ⊢
   refine HeldZ.take (v:=?vu17_16) 16 hinv rfl (by kernel_rfl) (by kernel_rfl) (by decide) (by decide) (by kernel_rfl) (by kernel_rfl) (by kernel_rfl) (fun _ _ _ h=>h) hS (Or.inl ⟨by rfl,?hyu17_16⟩) ?_
   case hyu17_16=>(intro w hSw;(try dsimp only at hSw);go_simp;try with_reducible rfl)
   clear hinv
   intro hinv
   try simp only [Act.put,List.setIfInBounds_toArray,List.set_cons_zero,List.set_cons_succ] at hinv ⊢
   refine HeldZ.take (v:=?vu18_17) 17 hinv rfl (by kernel_rfl) (by kernel_rfl) (by decide) (by decide) (by kernel_rfl) (by kernel_rfl) (by kernel_rfl) (fun _ _ _ h=>h) hS (Or.inl ⟨by rfl,?hyu18_17⟩) ?_
   case hyu18_17=>(intro w hSw;(try dsimp only at hSw);go_simp;try with_reducible rfl)
   clear hinv
   intro hinv
   try simp only [Act.put,List.setIfInBounds_toArray,List.set_cons_zero,List.set_cons_succ] at hinv ⊢
   refine HeldZ.take (v:=?vu19_18) 18 hinv rfl (by kernel_rfl) (by kernel_rfl) (by decide) (by decide) (by kernel_rfl) (by kernel_rfl) (by kernel_rfl) (fun _ _ _ h=>h) hS (Or.inl ⟨by rfl,?hyu19_18⟩) ?_
   case hyu19_18=>(intro w hSw;(try dsimp only at hSw);go_simp;try with_reducible rfl)
   clear hinv
   intro hinv
   try simp only [Act.put,List.setIfInBounds_toArray,List.set_cons_zero,List.set_cons_succ] at hinv ⊢
   refine HeldZ.take (v:=?vu20_19) 19 hinv rfl (by kernel_rfl) (by kernel_rfl) (by decide) (by decide) (by kernel_rfl) (by kernel_rfl) (by kernel_rfl) (fun _ _ _ h=>h) hS (Or.inl ⟨by rfl,?hyu20_19⟩) ?_
   case hyu20_19=>(intro w hSw;(try dsimp only at hSw);go_simp;try with_reducible rfl)
   clear hinv
   intro hinv
   try simp only [Act.put,List.setIfInBounds_toArray,List.set_cons_zero,List.set_cons_succ] at hinv ⊢
   refine HeldZ.take (v:=?vu21_20) 20 hinv rfl (by kernel_rfl) (by kernel_rfl) (by decide) (by decide) (by kernel_rfl) (by kernel_rfl) (by kernel_rfl) (fun _ _ _ h=>h) hS (Or.inl ⟨by rfl,?hyu21_20⟩) ?_
   case hyu21_20=>(intro w hSw;(try dsimp only at hSw);go_simp;try with_reducible rfl)
   clear hinv
   intro hinv
   try simp only [Act.put,List.setIfInBounds_toArray,List.set_cons_zero,List.set_cons_succ] at hinv ⊢
   refine HeldZ.take (v:=?vu22_21) 21 hinv rfl (by kernel_rfl) (by kernel_rfl) (by decide) (by decide) (by kernel_rfl) (by kernel_rfl) (by kernel_rfl) (fun _ _ _ h=>h) hS (Or.inl ⟨by rfl,?hyu22_21⟩) ?_
   case hyu22_21=>(intro w hSw;(try dsimp only at hSw);go_simp;try with_reducible rfl)
   clear hinv
   intro hinv
   try simp only [Act.put,List.setIfInBounds_toArray,List.set_cons_zero,List.set_cons_succ] at hinv ⊢
   refine HeldZ.take (v:=?vu23_22) 22 hinv rfl (by kernel_rfl) (by kernel_rfl) (by decide) (by decide) (by kernel_rfl) (by kernel_rfl) (by kernel_rfl) (fun _ _ _ h=>h) hS (Or.inl ⟨by rfl,?hyu23_22⟩) ?_
   case hyu23_22=>(intro w hSw;(try dsimp only at hSw);go_simp;try with_reducible rfl)
   clear hinv
   intro hinv
   try simp only [Act.put,List.setIfInBounds_toArray,List.set_cons_zero,List.set_cons_succ] at hinv ⊢
   refine HeldZ.take (v:=?vu24_23) 23 hinv rfl (by kernel_rfl) (by kernel_rfl) (by decide) (by decide) (by kernel_rfl) (by kernel_rfl) (by kernel_rfl) (fun _ _ _ h=>h) hS (Or.inl ⟨by rfl,?hyu24_23⟩) ?_
   case hyu24_23=>(intro w hSw;(try dsimp only at hSw);go_simp;try with_reducible rfl)
   clear hinv
   intro hinv
   try simp only [Act.put,List.setIfInBounds_toArray,List.set_cons_zero,List.set_cons_succ] at hinv ⊢
   refine HeldZ.take (v:=?vu25_24) 24 hinv rfl (by kernel_rfl) (by kernel_rfl) (by decide) (by decide) (by kernel_rfl) (by kernel_rfl) (by kernel_rfl) (fun _ _ _ h=>h) hS (Or.inl ⟨by rfl,?hyu25_24⟩) ?_
   case hyu25_24=>(intro w hSw;(try dsimp only at hSw);go_simp;try with_reducible rfl)
   clear hinv
   intro hinv
   try simp only [Act.put,List.setIfInBounds_toArray,List.set_cons_zero,List.set_cons_succ] at hinv ⊢
   refine HeldZ.one 25 hinv (by kernel_rfl) rfl rfl ?_
   clear hinv
   intro hinv K hK
   have hinv:=hinv (by decide)
   go_simp
   have hB2:Below w.heap.size w (wr.alloc (.cells #[.int .i64 (xa:Nat),.int .i64 (xb:Nat),.int .i64 (xc:Nat)] 3)).drew:=bel_drew (bel_alloc HBw.out _)
   refine hK _ _ (fun _=>HK.out _ hB2) ?_
   clear hK K
   try simp only [Act.put,List.setIfInBounds_toArray,List.set_cons_zero,List.set_cons_succ] at hinv ⊢
   refine HeldZ.oneL 26 hinv (by kernel_rfl) rfl rfl ?_
   clear hinv
   intro hinv K hK
   have hinv:=hinv (by decide)
   refine Kd.own_app_step intK (w0:=w) w.heap.size (by rfl) (.tmp 18) (.tmp 43) 74 3 Clones.zero_int 8 (by rfl) Tryz.underlying74 Clones.info_int rfl (by decide) (.slice A6 Y.length c6) Y [(xa:Int),(xb:Int),(xc:Int)] (some ⟨wr.drew.heap.size,0,none⟩) 3 Clones.TT (by rfl) (by rfl) ?ho (.inr ⟨?hr,Clones.any_int⟩) ?hbb ?hs ?hl ?_
   case ho=>exact Kd.own_drew (Kd.own_alloc HOw.out _)
   case hr=>exact intK.sl.mono (fun _ _ _=>trivial) (Kd.M_below (Kd.M_bound (HThree.out wr 3)) (bel_drew (Below.refl _ _)))
   case hbb=>exact hB2
   case hs=>simp;omega
   case hl=>simp;omega
   intro v1 w3 ho3 hb3 hg3 hv3
   rw [HSn.out] at ho3
   obtain ⟨Y3,hY3⟩:∃ Y3,Y3 = natZ (nums (I.take (k + 1))):=⟨_,rfl⟩
   rw [← hY3] at ho3
   have HY3:=Lib.hid hY3
   have HO3:=Lib.hid ho3
   obtain ⟨A7,c7,rfl,_,_⟩:=Kd.own_slice ho3
   have HB3:=Lib.hid hb3
   refine hK _ _ (fun _=>HK.out _ hb3) ?_
   clear hK K hY3 ho3 hg3 hv3 hB2
   try simp only [Act.put,List.setIfInBounds_toArray,List.set_cons_zero,List.set_cons_succ] at hinv ⊢
   refine HeldZ.one 27 hinv (by kernel_rfl) rfl rfl ?_
   clear hinv
   intro _ K hK
   go_simp
   refine hK _ _ (fun h=>absurd rfl h) ?_
   refine HeldZ.done (by kernel_rfl) ?_ _
   clear hS hK K HK HOw
   go_wp2
   go_roundw
   case rel=>exact ⟨k + 1,by go_num,by omega,Lib.hid ⟨by rw [← HY3.out];exact HO3.out,HB3.out⟩⟩
   case measure=>simp [intOf];omega
  ·
   have hd2:decide (k < I.length) = false:=decide_eq_false hlt2
   have HYn:Hid (Y = natZ (nums I)):=Lib.hid (by rw [HYe.out,List.take_of_length_le (by omega)])
   have hyl:Y.length = (nums I).length:=by rw [HYn.out,natZ_len]
   have HYl:=Lib.hid hyl
   have HBw:=Lib.hid HJ.out.2
   have k1:=HG1.out wr HBw.out
   have HWd:=Lib.hid (Ref2.width_calls E.length (by omega) wr)
   rw [← HWide.out.1] at HWd
   have HSec0:=Lib.hid HSecs.out
   obtain ⟨wd,hwd⟩:∃ wd,wd = wide T:=⟨_,rfl⟩
   rw [← hwd] at HWd HBits HSecs HBl
   have HW9:Hid (wd ≤ 9):=Lib.hid (by rw [hwd];exact HWide.out.2)
   have HPc:=Lib.hid (Ref2.pack_calls (nums I) wd (by have:=HW9.out;omega) (by rw [nums_len];omega) HBits.out A6 c6 wr (by
    have h1:=Kd.M_bound (Kd.own_sl (ok:=Clones.TT) (ok':=fun _=>True) HJ.out.1 (fun _ _=>trivial) (fun _ _=>trivial))
    rw [HYn.out,natZ_len] at h1
    exact h1))
   rw [← HYl.out] at HPc
   obtain ⟨Pb,hPb⟩:∃ Pb,Pb = packB (nums I) wd:=⟨_,rfl⟩
   rw [← hPb] at HPc HSecs HBl
   obtain ⟨Bd,hBd⟩:∃ Bd,Bd = headN I.length ++ Pb:=⟨_,rfl⟩
   have HBd:=Lib.hid hBd
   rw [← hBd] at HSecs HBl
   obtain ⟨F,hF⟩:∃ F,F = frontB L:=⟨_,rfl⟩
   have HFe:=Lib.hid hF
   rw [← hF] at HSecs
   have hPl:Pb.length ≤ 400:=by have:=HBl.out;rw [hBd,List.length_append] at this;omega
   clear hPb hBd hF hwd HJ hyl HRow
   go_wp2_with (first
    | (go_at_call 77;refine HWd.out.mono ?_;rintro e w' ⟨rfl,rfl⟩)
    | (go_at_call 39;refine HPc.out.mono ?_;rintro e w9 ⟨⟨v9,rfl,ho9⟩,hb9⟩;have HB9:=Lib.hid (bel_step HBw.out hb9);have HO9:=Lib.hid ho9;clear ho9 hb9;obtain ⟨A9,c9,rfl,_,_⟩:=Kd.own_slice HO9.out))
   have HK0:Hid (∀ w',Below w9.heap.size w9 w' → w'.cell? ⟨g,2,none⟩ = some (Value.slice A2 E.length c2)∧w'.cell? ⟨g,3,none⟩ = some (Value.slice A3 I.length c3)):=Lib.hid (fun W hb=>⟨HG2.out W (bel_step HB9.out hb),HG3.out W (bel_step HB9.out hb)⟩)
   have HRr:=Lib.hid (Kd.own_sl (ok:=Clones.TT) (ok':=fun _=>True) HO9.out (fun _ _=>trivial) (fun _ _=>trivial))
   have hcur:=Below.refl w9.heap.size w9
   obtain ⟨k2,k3⟩:=HK0.out w9 hcur
   have HBy:=Lib.hid (fun W (hb:Below w9.heap.size w9 W)=>Ref6.bytes_calls L (by rw [HTl.out];exact hE) (fun x hx=>by have:=HShort.out x hx;omega) A2 c2 W (HMS.out W (bel_step HB9.out hb)))
   rw [← HFe.out] at HBy
   have HMS2:=Lib.hid HMS.out
   rw [HTl.out] at HBy
   have HQa:Hid (IntKind.u8.wrap ((I.length:Int) / 256) = (I.length:Int) / 256):=Lib.hid (by rw [IntKind.wrap_u8'];omega)
   have HQb:Hid (IntKind.u8.wrap (I.length:Int) = (I.length:Int) % 256):=Lib.hid (by rw [IntKind.wrap_u8'])
   clear k1 HMS HMS2
   go_cut [7] (fun v7 wx=>Hid (byteK.own 5 wx w.heap.size Clones.TT v7 (encT T))∧Hid (Below w.heap.size w wx))
   case first =>
    go_region_held3 (fun w'=>w'.cell? ⟨g,2,none⟩ = some (Value.slice A2 E.length c2)∧w'.cell? ⟨g,3,none⟩ = some (Value.slice A3 I.length c3))
     (exact HK0.out _ (by repeat (first | exact Below.refl _ _ | assumption | refine bel_drew ?_ | refine bel_alloc ?_ _)))
     (first
      | (go_at_call 41;refine (HBy.out _ ?bl).mono ?_;go_loud (case bl=>repeat (first | exact Below.refl _ _ | assumption | refine bel_drew ?_ | refine bel_alloc ?_ _));rintro e w11 ⟨⟨v11,rfl,ho⟩,hb11⟩;have hcur:Below w9.heap.size w9 w11:=bel_step (by repeat (first | exact Below.refl _ _ | assumption | refine bel_drew ?_ | refine bel_alloc ?_ _)) hb11;have HSf:=Lib.hid (Kd.own_sl (ok:=Clones.TT) (ok':=fun _=>True) ho (fun _ _=>trivial) (fun _ _=>trivial));have hof:=StoreW.own_any any_u8 (ok':=Made.FF) ho;obtain ⟨A11,c11,rfl,_,_⟩:=Kd.own_slice ho;have HOf:=Lib.hid hof;clear ho hof)
      | (refine Kd.own_app_step byteK (w0:=w9) w9.heap.size (by rfl) (.tmp 76) (.tmp 77) 55 5 (.int .u8 0) 1 (by rfl) Tryz.underlying55 PackW.info_u8 rfl (by decide) (.slice (some ⟨w9.heap.size,0,none⟩) 2 2) (headN I.length) Pb A9 c9 Clones.TT (by rfl) (by rfl) ?ho (.inr ⟨?hr,any_u8⟩) ?hb ?hs ?hl ?_;go_loud (case ho=>(have hb:=hb11;rw [HQa.out,HQb.out] at hb;refine Kd.own_below ?_ hb;repeat (first | exact head_own _ _ _ (Nat.le_refl _) (by omega) | refine Kd.own_drew ?_)));go_loud (case hr=>exact byteK.sl.mono (fun _ _ _=>trivial) (Kd.M_below (Kd.M_bound HRr.out) hcur));go_loud (case hb=>exact hcur);go_loud (case hs=>exact hcur.size);go_loud (case hl=>have hh2:(headN I.length).length = 2:=rfl;omega);intro v1 w12 ho1 hb1 hg1 hv1;go_loud (rw [← HBd.out] at ho1);have HSf12:=Lib.hid (Kd.own_sl (ok:=Made.FF) (ok':=fun _=>True) (Kd.own_grown HOf.out hg1 (fun k h=>h.elim) (fun k hk e=>by have h1:=(Kd.own_lt HOf.out k hk).1;simp at h1;simp [Value.ownBlock] at e;omega)) (fun _ _=>trivial) (fun _ _=>trivial));have HSb12:=Lib.hid (Kd.own_sl (ok:=Clones.TT) (ok':=fun _=>True) ho1 (fun _ _=>trivial) (fun _ _=>trivial));have hcur2:=hb1;obtain ⟨A12,c12,rfl,_,_⟩:=Kd.own_slice ho1;clear ho1 hg1 hv1)
      | (refine Kd.own_app_step byteK (w0:=w11) w11.heap.size (by rfl) (.tmp 76) (.tmp 77) 55 5 (.int .u8 0) 1 (by rfl) Tryz.underlying55 PackW.info_u8 rfl (by decide) (.slice (some ⟨w11.heap.size,0,none⟩) 2 2) (headN I.length) Pb A9 c9 Clones.TT (by rfl) (by rfl) ?ho (.inr ⟨?hr,any_u8⟩) ?hb ?hs ?hl ?_;go_loud (case ho=>(rw [HQa.out,HQb.out];exact head_own _ _ _ (Nat.le_refl _) (by omega)));go_loud (case hr=>exact byteK.sl.mono (fun _ _ _=>trivial) (Kd.M_below (Kd.M_bound HRr.out) (bel_alloc hcur _)));go_loud (case hb=>exact bel_alloc (Below.refl _ _) _);go_loud (case hs=>simp);go_loud (case hl=>have hh2:(headN I.length).length = 2:=rfl;omega);intro v1 w12 ho1 hb1 hg1 hv1;go_loud (rw [← HBd.out] at ho1);have HSf12:=Lib.hid (byteK.sl.mono (ok':=fun _=>True) (fun _ _ _=>trivial) (Kd.M_below (Kd.M_bound HSf.out) hb1));have HSb12:=Lib.hid (Kd.own_sl (ok:=Clones.TT) (ok':=fun _=>True) ho1 (fun _ _=>trivial) (fun _ _=>trivial));have hcur2:Below w9.heap.size w9 w12:=bel_step hcur hb1;obtain ⟨A12,c12,rfl,_,_⟩:=Kd.own_slice ho1;clear ho1 hg1 hv1 hb1)
      | (go_at_call 40;refine (HPk.out _ _ (by rw [HSecs.out];exact two_secs HSf12.out HSb12.out (by omega) (by omega))).mono ?_;rintro e w13 ⟨⟨u,rfl,ho⟩,hb13⟩;obtain ⟨A13,c13,rfl,_,_⟩:=Kd.own_slice ho;have HB13:Below w9.heap.size w9 w13:=bel_step (bel_alloc hcur2 _) hb13;have HOe:=Lib.hid (Kd.own_lower (base':=w.heap.size) (by have:=bel_step HB9.out hcur2;have:=this.size;simp;omega) ho);clear ho)
      | fail)
    all_goals (go_wp2_with fail;go_meet;exact ⟨HOe,Lib.hid (bel_step HB9.out HB13)⟩)
   case rest =>
    obtain ⟨HO7,HB7⟩:=hcut
    obtain ⟨A7,c7,rfl,_,_⟩:=Kd.own_slice HO7.out
    go_wp2
    go_ret
    exact ⟨⟨_,rfl,HO7.out⟩,HB7.out⟩
end Go.Proofs.YtnplommdgfgboaaGreatDoor.RefEnc
namespace Go.Proofs.YtnplommdgfgboaaGreatDoor.RingC
open Go.RowKit Go.Lib B Rd TermPure LinesPure Tri SortP OrdG Cmp StoreW StoreM
set_option maxHeartbeats 3200000 in
set_option maxRecDepth 100000 in
theorem ring_calls (T:List Triple) (g:Nat) (w:World) (ok:Nat → Prop) (h:StoreAt w ok g T) :
  Calls Tryz.prog 22 #[.pointer (some ⟨g,0,none⟩)] w fun e w'=>(∃ h,e = .returned (.pointer (some ⟨h,0,none⟩))∧RingAt w' ok h (idsT T))∧Below w.heap.size w w':=by
 obtain ⟨_,_,_,r,hr,hrr⟩:=h
 have HR:=Lib.hid hrr
 clear hrr
 go_enter Tryz.func22,Tryz.ntmps22
 go_wp2
 go_ret
 exact ⟨⟨r,rfl,HR.out⟩,Below.refl _ _⟩
end Go.Proofs.YtnplommdgfgboaaGreatDoor.RingC
namespace Go.Proofs.YtnplommdgfgboaaGreatDoor.TermAt
open Go.RowKit Go.Lib B Rd TermPure LinesPure Tri SortP OrdG Cmp StoreW Search
theorem term_none (T:List Triple) (id:Int) (hid:id < 1 ∨ ((termsT T).length:Int) < id) (g:Nat) (w:World) (ok:Nat → Prop) (h:StoreAt w ok g T) :
  Calls Tryz.prog 33 #[.pointer (some ⟨g,0,none⟩),.int .i64 id] w fun e w'=>e = .returned (.tuple #[.agg #[.int .i64 0,.string ⟨#[]⟩,.string ⟨#[]⟩],.bool false])∧Below w.heap.size w w':=by
 obtain ⟨_,_,⟨A,c,hc,hM⟩,_⟩:=h
 obtain ⟨n,hn⟩:∃ n,n = (termsT T).length:=⟨_,rfl⟩
 rw [← hn] at hc hid
 have hb:Below w.heap.size w (w.alloc (.cells #[.int .i64 0,.string ⟨#[]⟩,.string ⟨#[]⟩] 24)):=bel_alloc (Below.refl _ _) _
 have hc0:=(hb.cell (p:=⟨g,1,none⟩) (cell_lt hc)).trans hc
 clear hM hn hb
 go_enter Tryz.func33,Tryz.ntmps33
 by_cases h1:id < 1
 ·
  have hd:decide (id < 1) = true:=decide_eq_true h1
  go_wp2
  refine bodyPost_ret (v:=.tuple #[.agg #[.int .i64 0,.string ⟨#[]⟩,.string ⟨#[]⟩],.bool false]) (by simp [results,Tryz.results33,go_sem]) rfl ?_
  exact ⟨rfl,bel_alloc (Below.refl _ _) _⟩
 have hd:decide (id < 1) = false:=decide_eq_false h1
 have h2:(n:Int) < id:=hid.resolve_left h1
 have hd2:decide ((n:Int) < id) = true:=decide_eq_true h2
 go_wp2
 refine bodyPost_ret (v:=.tuple #[.agg #[.int .i64 0,.string ⟨#[]⟩,.string ⟨#[]⟩],.bool false]) (by simp [results,Tryz.results33,go_sem]) rfl ?_
 exact ⟨rfl,bel_alloc (Below.refl _ _) _⟩
theorem term_at (T:List Triple) (i:Nat) (hi:i < (termsT T).length) (h6:(termsT T).length ≤ 1000000) (g:Nat) (w:World) (ok:Nat → Prop) (h:StoreAt w ok g T) :
  Calls Tryz.prog 33 #[.pointer (some ⟨g,0,none⟩),.int .i64 ((i + 1:Nat):Int)] w fun e w'=>e = .returned (.tuple #[Ref5.termV ((termsT T)[i]),.bool true])∧Below w.heap.size w w':=by
 obtain ⟨_,_,⟨A,c,hc,hM⟩,_⟩:=h
 obtain ⟨b,off,rfl,_,hbs,hcells⟩:=term_cells hM (by omega)
 have hcx:=hcells i hi
 obtain ⟨t,ht⟩:∃ t,t = (termsT T)[i]:=⟨_,rfl⟩
 rw [← ht] at hcx
 rw [← ht]
 obtain ⟨n,hn⟩:∃ n,n = (termsT T).length:=⟨_,rfl⟩
 rw [← hn] at hc hi h6
 have hb:Below w.heap.size w (w.alloc (.cells #[.int .i64 0,.string ⟨#[]⟩,.string ⟨#[]⟩] 24)):=bel_alloc (Below.refl _ _) _
 have hc0:=(hb.cell (p:=⟨g,1,none⟩) (cell_lt hc)).trans hc
 have hcy:=hcx.below hb
 have y0:=hcy.c0
 have y1:=hcy.c1
 have y2:=hcy.c2
 clear hM hn hb hcells ht hcx hcy
 have d1:decide (((i:Int) + 1) < 1) = false:=decide_eq_false (by omega)
 have d2:decide ((n:Int) < (i:Int) + 1) = false:=decide_eq_false (by omega)
 have ik:(i:Int) < (n:Int):=by omega
 obtain ⟨tk,tx,te⟩:=t
 unfold Ref5.termV
 go_enter Tryz.func33,Tryz.ntmps33
 go_wp2
 refine bodyPost_ret (v:=.tuple #[.agg #[.int .i64 tk,.string (mkS tx),.string (mkS te)],.bool true]) (by simp [results,Tryz.results33,go_sem]) rfl ?_
 exact ⟨rfl,bel_alloc (Below.refl _ _) _⟩
end Go.Proofs.YtnplommdgfgboaaGreatDoor.TermAt
namespace Go.Proofs.YtnplommdgfgboaaGreatDoor.Alike
open Go.RowKit Go.Lib B Rd TermPure LinesPure Tri SortP OrdG TermW Print Cmp Long StoreW StoreM ParseP Parse ParseOk SPrint StoreP Encode SortW SCommon IdsW IdsAll RefOf Search
theorem ref_below {w w1:World} {g:Nat} {T:List Triple} (h:RefAt w (fun _=>True) g T) (hb:Below w.heap.size w w1):RefAt w1 (fun _=>True) g T:=by
 obtain ⟨⟨A0,c0,h0,m0⟩,⟨A1,c1,h1,m1⟩,⟨A2,c2,h2,m2⟩,⟨A3,c3,h3,m3⟩⟩:=h
 exact ⟨⟨A0,c0,(hb.cell (p:=⟨g,0,none⟩) (cell_lt h0)).trans h0,triK.sl.mono (fun _ _ _=>trivial) (Kd.M_below (Kd.M_bound m0) hb)⟩,
  ⟨A1,c1,(hb.cell (p:=⟨g,1,none⟩) (cell_lt h1)).trans h1,termK.sl.mono (fun _ _ _=>trivial) (Kd.M_below (Kd.M_bound m1) hb)⟩,
  ⟨A2,c2,(hb.cell (p:=⟨g,2,none⟩) (cell_lt h2)).trans h2,strK.sl.mono (fun _ _ _=>trivial) (Kd.M_below (Kd.M_bound m2) hb)⟩,
  ⟨A3,c3,(hb.cell (p:=⟨g,3,none⟩) (cell_lt h3)).trans h3,idsK.sl.mono (fun _ _ _=>trivial) (Kd.M_below (Kd.M_bound m3) hb)⟩⟩
structure AL (w wr:World) (gs gx:Nat) (T:List Triple):Prop where
 bel:Below w.heap.size w wr
 st:StoreAt wr (fun _=>True) gs T
 rf:RefAt wr (fun _=>True) gx T
theorem AL.below {w wr w1:World} {gs gx:Nat} {T:List Triple} (h:AL w wr gs gx T) (hb:Below wr.heap.size wr w1):AL w w1 gs gx T:=
 ⟨bel_step h.bel hb,h.st.below hb,ref_below h.rf hb⟩
theorem AL.id {w wr:World} {gs gx:Nat} {T:List Triple} (h:AL w wr gs gx T) (hv:Valid T) (hE:(termsT T).length ≤ 300) (y:Term) (hy:SmallM y) :
  Calls Tryz.prog 18 #[.pointer (some ⟨gs,0,none⟩),Ref5.termV y] wr fun e w'=>e = .returned (.int .i64 (idOf (termsT T) y:Nat))∧Below wr.heap.size wr w':=by
 obtain ⟨_,_,⟨A',c',hc,hM⟩,_⟩:=h.st
 exact id_calls (termsT T) y (termsT_rise hv) (fun x hx=>by have:=is_small (termsT_is hv x hx);unfold SmallM;omega) hy gs A' c' wr hc (Kd.M_bound hM) (by omega)
theorem idOf_at {l:List Term} (hr:l.Pairwise ltTm) (i:Nat) (h:i < l.length):idOf l l[i] = i + 1:=
 idOf_first h rfl (fun j hj hji e=>by
  have:=List.pairwise_iff_getElem.1 hr j i hj h hji
  rw [e] at this
  exact List.lt_irrefl _ this)
theorem same_self (l:List Triple) (A B:Option Addr) (c d:Nat) (w:World) (HL:triK.sl.M w (fun k=>k < w.heap.size) l [.slice A l.length c]) (HM:triK.sl.M w (fun k=>k < w.heap.size) l [.slice B l.length d]) :
  Calls Tryz.prog 30 #[.slice A l.length c,.slice B l.length d] w fun e w'=>e = .returned (.bool true)∧Below w.heap.size w w':=by
 refine (same_calls l l A B c d w HL HM).mono ?_
 rintro e w' ⟨rfl,hb⟩
 exact ⟨by rw [decide_eq_true rfl],hb⟩
theorem same8_self (l:List Ids) (A B:Option Addr) (c d:Nat) (w:World) (HL:idsK.sl.M w (fun k=>k < w.heap.size) l [.slice A l.length c]) (HM:idsK.sl.M w (fun k=>k < w.heap.size) l [.slice B l.length d]) (h47:l.length ≤ 1000000) :
  Calls Tryz.prog 25 #[.slice A l.length c,.slice B l.length d] w fun e w'=>e = .returned (.bool true)∧Below w.heap.size w w':=by
 refine (same8_calls l l A B c d w HL HM h47 h47).mono ?_
 rintro e w' ⟨rfl,hb⟩
 exact ⟨by rw [decide_eq_true rfl],hb⟩
set_option maxHeartbeats 12800000 in
set_option maxRecDepth 100000 in
theorem alike_calls (T:List Triple) (hv:Valid T) (hl:T.length ≤ 100) (gs gx:Nat) (w:World) (hs:StoreAt w (fun _=>True) gs T) (hx:RefAt w (fun _=>True) gx T) :
  Calls Tryz.prog 32 #[.pointer (some ⟨gs,0,none⟩),.pointer (some ⟨gx,0,none⟩)] w fun e w'=>e = .returned (.bool true)∧Below w.heap.size w w':=by
 have HS0:Hid (AL w w gs gx T):=Lib.hid ⟨Below.refl _ _,hs,hx⟩
 have HV:=Lib.hid hv
 have HEl:=Lib.hid (E_len hv hl)
 have HRise:=Lib.hid (termsT_rise hv)
 have HIs:=Lib.hid (termsT_is hv)
 have HIl:=Lib.hid (ids_len T)
 have HSm:Hid (∀ t ∈ T,SmallT t):=Lib.hid (fun t ht=>(valid_small (hv t ht)).1)
 have HFl:=Lib.hid (flat_valid hv (by omega))
 obtain ⟨A0,c0,hc0,hM0⟩:=hx.tri
 have HM0:=Lib.hid (fun W (hb:Below w.heap.size w W)=>Kd.M_bound (Kd.M_below (Kd.M_bound hM0) hb))
 have HK0:Hid (∀ W,Below w.heap.size w W → W.cell? ⟨gx,0,none⟩ = some (.slice A0 T.length c0)):=Lib.hid (fun W hb=>(hb.cell (p:=⟨gx,0,none⟩) (cell_lt hc0)).trans hc0)
 have HLn:=Lib.hid (fun W (hb:Below w.heap.size w W)=>len_calls T hl gs W _ (HS0.out.below hb).st)
 have HTr:=Lib.hid (fun W (hb:Below w.heap.size w W)=>triples_calls T hl gs W _ (HS0.out.below hb).st)
 have HEx:=Lib.hid (fun W (hb:Below w.heap.size w W)=>export_calls T hv hl gs W _ (HS0.out.below hb).st)
 have HPr:=Lib.hid (fun W (hb:Below w.heap.size w W)=>refprint_calls T A0 c0 W (HM0.out W hb) HSm.out (by have:=HFl.out;omega))
 have HSame:=Lib.hid (fun A c W (hm:triK.sl.M W (fun k=>k < W.heap.size) T [.slice A T.length c]) (hb:Below w.heap.size w W)=>same_self T A A0 c c0 W hm (HM0.out W hb))
 obtain ⟨X,hX⟩:∃ X,X = T.flatMap lineN:=⟨_,rfl⟩
 rw [← hX] at HEx HPr
 have tX:=mkS_toList X
 have hqX:(X == X) = true:=by simp
 have hcur:=Below.refl w.heap.size w
 have k0:=HK0.out w hcur
 clear hX hM0 hc0 hs hx hv
 go_enter Tryz.func32,Tryz.ntmps32
 go_upto_region 1 with fail
 go_cut [45] (fun v45 wx=>v45 = .bool false∧Hid (Below w.heap.size w wx))
 case first =>
  go_region_held3 (fun W=>W.cell? ⟨gx,0,none⟩ = some (Value.slice A0 T.length c0)) (exact HK0.out _ (by repeat (first | assumption | exact Below.refl _ _ | refine bel_drew ?_ | refine bel_alloc ?_ _))) (first
   | (go_at_call 24;refine (HLn.out _ ?_).mono ?_;(repeat (first | assumption | exact Below.refl _ _ | refine bel_drew ?_ | refine bel_alloc ?_ _));rintro e w9 ⟨rfl,hbc⟩;have hcur:Below w.heap.size w w9:=bel_step (by repeat (first | assumption | exact Below.refl _ _ | refine bel_drew ?_ | refine bel_alloc ?_ _)) hbc;have k0:=HK0.out w9 hcur)
   | (go_at_call 34;refine (HTr.out _ ?_).mono ?_;(repeat (first | assumption | exact Below.refl _ _ | refine bel_drew ?_ | refine bel_alloc ?_ _));rintro e w10 ⟨⟨v10,rfl,ho10⟩,hbc⟩;have hM10:=Kd.M_bound (Kd.own_sl (ok:=fun _=>True) ho10 (fun k hk=>trivial) (fun k hk=>trivial));obtain ⟨A10,c10,rfl,_,_⟩:=Kd.own_slice ho10;have HM10:=Lib.hid hM10;clear ho10 hM10;have hcur:Below w.heap.size w w10:=bel_step (by repeat (first | assumption | exact Below.refl _ _ | refine bel_drew ?_ | refine bel_alloc ?_ _)) hbc;have k0:=HK0.out w10 hcur)
   | (go_at_call 30;refine (HSame.out A10 c10 _ (Kd.M_bound (Kd.M_below HM10.out (by repeat (first | exact Below.refl _ _ | refine bel_drew ?_ | refine bel_alloc ?_ _)))) ?_).mono ?_;(repeat (first | assumption | exact Below.refl _ _ | refine bel_drew ?_ | refine bel_alloc ?_ _));rintro e w11 ⟨rfl,hbc⟩;have hcur:Below w.heap.size w w11:=bel_step (by repeat (first | assumption | exact Below.refl _ _ | refine bel_drew ?_ | refine bel_alloc ?_ _)) hbc;have k0:=HK0.out w11 hcur)
   | (go_at_call 29;refine (HEx.out _ ?_).mono ?_;(repeat (first | assumption | exact Below.refl _ _ | refine bel_drew ?_ | refine bel_alloc ?_ _));rintro e w12 ⟨rfl,hbc⟩;have hcur:Below w.heap.size w w12:=bel_step (by repeat (first | assumption | exact Below.refl _ _ | refine bel_drew ?_ | refine bel_alloc ?_ _)) hbc;have k0:=HK0.out w12 hcur)
   | (go_at_call 14;refine (HPr.out _ ?_).mono ?_;(repeat (first | assumption | exact Below.refl _ _ | refine bel_drew ?_ | refine bel_alloc ?_ _));rintro e w13 ⟨rfl,hbc⟩;have hcur:Below w.heap.size w w13:=bel_step (by repeat (first | assumption | exact Below.refl _ _ | refine bel_drew ?_ | refine bel_alloc ?_ _)) hbc;have k0:=HK0.out w13 hcur)
   | fail)
  all_goals (have HBf:=Lib.hid hcur;go_wp2_with fail;go_meet;exact ⟨rfl,HBf⟩)
 case rest =>
  obtain ⟨rfl,HBc⟩:=hcut
  have HSc:=Lib.hid (HS0.out.below HBc.out)
  have HTm:=Lib.hid (terms_calls T HEl.out gs wc _ HSc.out.st)
  clear k0 hcur tX hqX HLn HTr HEx HPr HSame HK0 HM0 HS0 HBc
  go_wp2_with fail
  refine HTm.out.mono ?_
  rintro e w2 ⟨⟨v5,rfl,ho⟩,hb⟩
  obtain ⟨A5,c5,rfl,_,_⟩:=Kd.own_slice ho
  have HS2:=Lib.hid (HSc.out.below hb)
  have HM5:=Lib.hid (Kd.M_bound (Kd.own_sl (ok:=fun _=>True) ho (fun k hk=>trivial) (fun k hk=>trivial)))
  obtain ⟨E,hE⟩:∃ E,E = termsT T:=⟨_,rfl⟩
  have HEe:=Lib.hid hE
  obtain ⟨A1,c1,hg1,hM1⟩:=HS2.out.rf.terms
  rw [← hE] at HM5 HEl HRise HIs hg1 hM1
  rw [← hE]
  have HM1:=Lib.hid (Kd.M_bound hM1)
  have HG1:=Lib.hid hg1
  have hE300:=HEl.out
  clear ho hb hE hg1 hM1 HSc HTm
  have k1:=HG1.out
  go_wp2
  go_loopw [6] (fun vi wr=>∃ i:Nat,vi = .int .i64 i∧i ≤ E.length∧Hid (AL w wr gs gx T∧Below w2.heap.size w2 wr)) (fun vi _=>E.length - (intOf vi).toNat)
  case atStart=>exact ⟨0,rfl,by omega,Lib.hid ⟨HS2.out,Below.refl _ _⟩⟩
  case round =>
   obtain ⟨i,rfl,hi,HI⟩:=hrel
   clear k1
   by_cases hlt:i < E.length
   ·
    have hd:decide (i < E.length) = true:=decide_eq_true hlt
    have ii:(i:Int) < (E.length:Int):=by omega
    have hw1:IntKind.i64.wrap ((i:Int) + 1) = (i:Int) + 1:=by rw [IntKind.wrap_i64];omega
    have HTm:=TermAt.term_at T i (by rw [← HEe.out];exact hlt) (by rw [← HEe.out];omega) gs wr _ HI.out.1.st
    rw [show ((i + 1:Nat):Int) = (i:Int) + 1 by omega] at HTm
    obtain ⟨t,ht⟩:∃ t,t = E[i]:=⟨_,rfl⟩
    have hte:(termsT T)[i]'(by rw [← HEe.out];exact hlt) = t:=by
     rw [ht]
     have:∀ (l:List Term) (h:l = E) (h1:i < l.length),l[i] = E[i]:=by rintro l rfl h1;rfl
     exact this _ HEe.out.symm _
    rw [hte] at HTm
    have HTm:=Lib.hid HTm
    have hsm:SmallM t:=by have:=is_small (HIs.out t (by rw [ht];exact List.getElem_mem hlt));unfold SmallM;omega
    have hid:idOf E t = i + 1:=by rw [ht];exact idOf_at HRise.out i hlt
    have HId:=Lib.hid (fun W (h:AL w W gs gx T)=>h.id HV.out (by rw [← HEe.out];exact hE300) t hsm)
    rw [← HEe.out,hid] at HId
    have hne:∀ W,(binOp .neq 24 (.agg #[.int .i64 t.kind,.string (mkS t.text),.string (mkS t.extra)]) (.agg #[.int .i64 t.kind,.string (mkS t.text),.string (mkS t.extra)])).run Tryz.prog W = .ok (.bool false) W:=fun W=>by
     have:=run_ne_term t t W
     rw [decide_eq_true rfl] at this
     exact this
    have HNe:=Lib.hid hne
    obtain ⟨b5,o5,rfl,_,hbs5,hcells5⟩:=term_cells HM5.out (by omega)
    obtain ⟨b1,o1,rfl,_,hbs1,hcells1⟩:=term_cells HM1.out (by omega)
    have hx5:=(hcells5 i hlt).below HI.out.2
    have hx1:=(hcells1 i hlt).below HI.out.2
    rw [← ht] at hx5 hx1
    have hg1:=(HI.out.2.cell (p:=⟨gx,1,none⟩) (cell_lt HG1.out)).trans HG1.out
    have HX5:=Lib.hid hx5
    have HX1:=Lib.hid hx1
    have HGr:=Lib.hid hg1
    clear ht hte hsm hid hne hcells5 hcells1 hx5 hx1 hg1
    go_wp2_with fail
    refine HTm.out.mono ?_
    rintro e w3 ⟨rfl,hb⟩
    have hb4:Below wr.heap.size wr (w3.alloc (.cells (termL t).toArray 24)):=bel_alloc hb _
    have hnw:=C3.new w3 t
    have hs4:Hid (w3.heap.size < (w3.alloc (.cells (termL t).toArray 24)).heap.size):=Lib.hid (by simp)
    obtain ⟨w4,hw4⟩:∃ w4,w4 = w3.alloc (.cells (termL t).toArray 24):=⟨_,rfl⟩
    rw [← hw4] at hb4 hnw hs4
    have HWX:Hid (w3.alloc (.cells #[.int .i64 t.kind,.string (mkS t.text),.string (mkS t.extra)] 24) = w4):=Lib.hid hw4.symm
    have HS4:=Lib.hid (HI.out.1.below hb4)
    have HB24:=Lib.hid (bel_step HI.out.2 hb4)
    have h5:=HX5.out.below hb4
    have h1:=HX1.out.below hb4
    have hg4:=(hb4.cell (p:=⟨gx,1,none⟩) (cell_lt HGr.out)).trans HGr.out
    have a0:=fun p:QT.Bel w4=>(h5.bel p).c0
    have a1:=fun p:QT.Bel w4=>(h5.bel p).c1
    have a2:=fun p:QT.Bel w4=>(h5.bel p).c2
    have x0:=fun p:QT.Bel w4=>(h1.bel p).c0
    have x1:=fun p:QT.Bel w4=>(h1.bel p).c1
    have x2:=fun p:QT.Bel w4=>(h1.bel p).c2
    have y0:=fun p:QT.Bel w4=>(hnw.bel p).c0
    have y1:=fun p:QT.Bel w4=>(hnw.bel p).c1
    have y2:=fun p:QT.Bel w4=>(hnw.bel p).c2
    have gp:=fun p:QT.Bel w4=>p.cell (b:=gx) (o:=1) hg4
    have HIp:=Lib.hid (fun p:QT.Bel w4=>HId.out p.w (HS4.out.below p.bel))
    have hqq:=HNe.out
    simp only [Nat.zero_add] at y1 y2
    clear hw4 hb hb4 hnw h5 h1 hg4 HId HNe HX5 HX1 HGr HTm HI
    obtain ⟨tk,tx,te⟩:=t
    unfold Ref5.termV at HIp ⊢
    dsimp only at a0 a1 a2 x0 x1 x2 y0 y1 y2 HIp hqq HWX
    dsimp only
    go_upto_region 10 with fail
    rw [HWX.out]
    clear HWX
    refine QT.region_all (by kernel_rfl) (by kernel_rfl) ?_
    iterate 30 (go_big_quiet_step (fail))
    go_big_quiet_step (exact QT.Bel.call _ (HIp.out _))
    iterate 4 (go_big_quiet_step (fail))
    refine wpQuiet_nil ?_
    intro w5 hw'
    obtain ⟨⟨_,hb5⟩,rfl⟩:=hw'
    have HS5:=Lib.hid (HS4.out.below hb5)
    have HB25:=Lib.hid (bel_step HB24.out hb5)
    clear hb5 a0 a1 a2 x0 x1 x2 y0 y1 y2 gp HIp hqq HS4 HB24
    go_wp2
    go_roundw
    case rel=>exact ⟨i + 1,by go_num,by omega,Lib.hid ⟨HS5.out,HB25.out⟩⟩
    case measure=>simp [intOf];omega
   ·
    have hd:decide (i < E.length) = false:=decide_eq_false hlt
    have HSr:=Lib.hid HI.out.1
    have hw1:IntKind.i64.wrap ((E.length:Int) + 1) = (E.length:Int) + 1:=by rw [IntKind.wrap_i64];omega
    have HT0:=Lib.hid (TermAt.term_none T 0 (.inl (by decide)) gs wr _ HI.out.1.st)
    clear HI hlt
    go_wp2_with fail
    refine HT0.out.mono ?_
    rintro e w3 ⟨rfl,hb⟩
    have HS3:=Lib.hid (HSr.out.below (bel_alloc hb (.cells #[.int .i64 0,.string ⟨#[]⟩,.string ⟨#[]⟩] 24)))
    have HT1:=Lib.hid (TermAt.term_none T ((E.length:Int) + 1) (.inr (by rw [← HEe.out];omega)) gs _ _ HS3.out.st)
    clear hb HT0 HSr
    dsimp only
    go_wp2_with fail
    refine HT1.out.mono ?_
    rintro e w4 ⟨rfl,hb⟩
    have HS4:=Lib.hid (HS3.out.below (bel_alloc hb (.cells #[.int .i64 0,.string ⟨#[]⟩,.string ⟨#[]⟩] 24)))
    have HRg:=Lib.hid (RingC.ring_calls T gs _ _ HS4.out.st)
    clear hb HT1 HS3 hw1
    dsimp only
    go_wp2_with fail
    refine HRg.out.mono ?_
    rintro e w5 ⟨⟨rg,rfl,hG⟩,hb⟩
    have HS5:=Lib.hid (HS4.out.below hb)
    have HG5:=Lib.hid hG
    clear hb HRg HS4 hG
    obtain ⟨A3,c3,hg3,hM3⟩:=HS5.out.rf.ids
    have HK3:Hid (∀ W,Below w5.heap.size w5 W → W.cell? ⟨gx,3,none⟩ = some (.slice A3 T.length c3)):=Lib.hid (fun W hb=>(hb.cell (p:=⟨gx,3,none⟩) (cell_lt hg3)).trans hg3)
    have HM3:=Lib.hid (fun W (hb:Below w5.heap.size w5 W)=>Kd.M_bound (Kd.M_below (Kd.M_bound hM3) hb))
    have HAl:=Lib.hid (fun W (hW:Below w5.heap.size w5 W)=>all_calls anyP (idsT T) (by rw [ids_len];exact hl) rg W _ (HG5.out.below hW))
    rw [filter_any] at HAl
    unfold patL anyP at HAl
    dsimp only at HAl
    have HEn:=Lib.hid (fun W (hW:Below w5.heap.size w5 W)=>encode_calls T HV.out hl gs W _ (HS5.out.below hW).st)
    have HRe:=Lib.hid (fun W (hW:Below w5.heap.size w5 W)=>RefEnc.refenc_calls T HV.out hl gx W _ (HS5.out.below hW).rf)
    have HSm8:=Lib.hid (fun A c W (hm:idsK.sl.M W (fun k=>k < W.heap.size) (idsT T) [.slice A (idsT T).length c]) (hb:Below w5.heap.size w5 W)=>same8_self (idsT T) A A3 c c3 W hm (by have h:=HM3.out W hb;rw [← HIl.out] at h;exact h) (by have:=HIl.out;omega))
    rw [HIl.out] at HAl HSm8
    obtain ⟨a,ha⟩:∃ a,a = encT T:=⟨_,rfl⟩
    rw [← ha] at HEn HRe
    have ta:=mkS_toList a
    have hqe:(a == a) = true:=by simp
    have hcur:=Below.refl w5.heap.size w5
    have k3:=HK3.out w5 hcur
    clear ha hg3 hM3 HM3 HIl HEe HEl HRise HIs hE300 HM5 HM1 HG1 hi HS2
    go_upto_region 15 with fail
    refine HeldZ.region (fun W=>W.cell? ⟨gx,3,none⟩ = some (Value.slice A3 T.length c3)) 29 30 #[false,false,false,false,false,false,false,false,false,false,false,false,false,false,false,false,false,false,false,false,false,false,false,false,false,false,false,false,false,false] (by kernel_rfl) rfl rfl ?_
    intro hinv
    have hcur:Below w5.heap.size w5 w5.drew:=bel_drew (Below.refl _ _)
    have hS:=HK3.out w5.drew hcur
    refine HeldZ.take (v:=?vq1_0) 0 hinv rfl (by kernel_rfl) (by kernel_rfl) (by decide) (by decide) (by kernel_rfl) (by kernel_rfl) (by kernel_rfl) (fun _ _ _ h=>h) hS (Or.inl ⟨by rfl,?hyq1_0⟩) ?_
    case hyq1_0=>(intro w hSw;(try dsimp only at hSw);go_simp;try with_reducible rfl)
    clear hinv
    intro hinv
    try simp only [List.getElem_toArray,List.getElem_cons_zero,List.getElem_cons_succ,Act.put,List.setIfInBounds_toArray,List.set_cons_zero,List.set_cons_succ] at hinv ⊢
    refine HeldZ.take (v:=?vq2_1) 1 hinv rfl (by kernel_rfl) (by kernel_rfl) (by decide) (by decide) (by kernel_rfl) (by kernel_rfl) (by kernel_rfl) (fun _ _ _ h=>h) hS (Or.inl ⟨by rfl,?hyq2_1⟩) ?_
    case hyq2_1=>(intro w hSw;(try dsimp only at hSw);go_simp;try with_reducible rfl)
    clear hinv
    intro hinv
    try simp only [List.getElem_toArray,List.getElem_cons_zero,List.getElem_cons_succ,Act.put,List.setIfInBounds_toArray,List.set_cons_zero,List.set_cons_succ] at hinv ⊢
    refine HeldZ.take (v:=?vq3_2) 2 hinv rfl (by kernel_rfl) (by kernel_rfl) (by decide) (by decide) (by kernel_rfl) (by kernel_rfl) (by kernel_rfl) (fun _ _ _ h=>h) hS (Or.inl ⟨by rfl,?hyq3_2⟩) ?_
    case hyq3_2=>(intro w hSw;(try dsimp only at hSw);go_simp;try with_reducible rfl)
    clear hinv
    intro hinv
    try simp only [List.getElem_toArray,List.getElem_cons_zero,List.getElem_cons_succ,Act.put,List.setIfInBounds_toArray,List.set_cons_zero,List.set_cons_succ] at hinv ⊢
    refine HeldZ.take (v:=?vq4_3) 3 hinv rfl (by kernel_rfl) (by kernel_rfl) (by decide) (by decide) (by kernel_rfl) (by kernel_rfl) (by kernel_rfl) (fun _ _ _ h=>h) hS (Or.inl ⟨by rfl,?hyq4_3⟩) ?_
    case hyq4_3=>(intro w hSw;(try dsimp only at hSw);go_simp;try with_reducible rfl)
    clear hinv
    intro hinv
    try simp only [List.getElem_toArray,List.getElem_cons_zero,List.getElem_cons_succ,Act.put,List.setIfInBounds_toArray,List.set_cons_zero,List.set_cons_succ] at hinv ⊢
    refine HeldZ.take (v:=?vq5_4) 4 hinv rfl (by kernel_rfl) (by kernel_rfl) (by decide) (by decide) (by kernel_rfl) (by kernel_rfl) (by kernel_rfl) (fun _ _ _ h=>h) hS (Or.inl ⟨by rfl,?hyq5_4⟩) ?_
    case hyq5_4=>(intro w hSw;(try dsimp only at hSw);go_simp;try with_reducible rfl)
    clear hinv
    intro hinv
    try simp only [List.getElem_toArray,List.getElem_cons_zero,List.getElem_cons_succ,Act.put,List.setIfInBounds_toArray,List.set_cons_zero,List.set_cons_succ] at hinv ⊢
    refine HeldZ.take (v:=?vq6_5) 5 hinv rfl (by kernel_rfl) (by kernel_rfl) (by decide) (by decide) (by kernel_rfl) (by kernel_rfl) (by kernel_rfl) (fun _ _ _ h=>h) hS (Or.inl ⟨by rfl,?hyq6_5⟩) ?_
    case hyq6_5=>(intro w hSw;(try dsimp only at hSw);go_simp;try with_reducible rfl)
    clear hinv
    intro hinv
    try simp only [List.getElem_toArray,List.getElem_cons_zero,List.getElem_cons_succ,Act.put,List.setIfInBounds_toArray,List.set_cons_zero,List.set_cons_succ] at hinv ⊢
    refine HeldZ.take (v:=?vq7_6) 6 hinv rfl (by kernel_rfl) (by kernel_rfl) (by decide) (by decide) (by kernel_rfl) (by kernel_rfl) (by kernel_rfl) (fun _ _ _ h=>h) hS (Or.inl ⟨by rfl,?hyq7_6⟩) ?_
    case hyq7_6=>(intro w hSw;(try dsimp only at hSw);go_simp;try with_reducible rfl)
    clear hinv
    intro hinv
    try simp only [List.getElem_toArray,List.getElem_cons_zero,List.getElem_cons_succ,Act.put,List.setIfInBounds_toArray,List.set_cons_zero,List.set_cons_succ] at hinv ⊢
    refine HeldZ.take (v:=?vq8_7) 7 hinv rfl (by kernel_rfl) (by kernel_rfl) (by decide) (by decide) (by kernel_rfl) (by kernel_rfl) (by kernel_rfl) (fun _ _ _ h=>h) hS (Or.inl ⟨by rfl,?hyq8_7⟩) ?_
    case hyq8_7=>(intro w hSw;(try dsimp only at hSw);go_simp;try with_reducible rfl)
    clear hinv
    intro hinv
    try simp only [List.getElem_toArray,List.getElem_cons_zero,List.getElem_cons_succ,Act.put,List.setIfInBounds_toArray,List.set_cons_zero,List.set_cons_succ] at hinv ⊢
    refine HeldZ.take (v:=?vq9_8) 8 hinv rfl (by kernel_rfl) (by kernel_rfl) (by decide) (by decide) (by kernel_rfl) (by kernel_rfl) (by kernel_rfl) (fun _ _ _ h=>h) hS (Or.inl ⟨by rfl,?hyq9_8⟩) ?_
    case hyq9_8=>(intro w hSw;(try dsimp only at hSw);go_simp;try with_reducible rfl)
    clear hinv
    intro hinv
    try simp only [List.getElem_toArray,List.getElem_cons_zero,List.getElem_cons_succ,Act.put,List.setIfInBounds_toArray,List.set_cons_zero,List.set_cons_succ] at hinv ⊢
    refine HeldZ.take (v:=?vq10_9) 9 hinv rfl (by kernel_rfl) (by kernel_rfl) (by decide) (by decide) (by kernel_rfl) (by kernel_rfl) (by kernel_rfl) (fun _ _ _ h=>h) hS (Or.inl ⟨by rfl,?hyq10_9⟩) ?_
    case hyq10_9=>(intro w hSw;(try dsimp only at hSw);go_simp;try with_reducible rfl)
    clear hinv
    intro hinv
    try simp only [List.getElem_toArray,List.getElem_cons_zero,List.getElem_cons_succ,Act.put,List.setIfInBounds_toArray,List.set_cons_zero,List.set_cons_succ] at hinv ⊢
    refine HeldZ.take (v:=?vq11_10) 10 hinv rfl (by kernel_rfl) (by kernel_rfl) (by decide) (by decide) (by kernel_rfl) (by kernel_rfl) (by kernel_rfl) (fun _ _ _ h=>h) hS (Or.inl ⟨by rfl,?hyq11_10⟩) ?_
    case hyq11_10=>(intro w hSw;(try dsimp only at hSw);go_simp;try with_reducible rfl)
    clear hinv
    intro hinv
    try simp only [List.getElem_toArray,List.getElem_cons_zero,List.getElem_cons_succ,Act.put,List.setIfInBounds_toArray,List.set_cons_zero,List.set_cons_succ] at hinv ⊢
    refine HeldZ.take (v:=?vq12_11) 11 hinv rfl (by kernel_rfl) (by kernel_rfl) (by decide) (by decide) (by kernel_rfl) (by kernel_rfl) (by kernel_rfl) (fun _ _ _ h=>h) hS (Or.inl ⟨by rfl,?hyq12_11⟩) ?_
    case hyq12_11=>(intro w hSw;(try dsimp only at hSw);go_simp;try with_reducible rfl)
    clear hinv
    intro hinv
    try simp only [List.getElem_toArray,List.getElem_cons_zero,List.getElem_cons_succ,Act.put,List.setIfInBounds_toArray,List.set_cons_zero,List.set_cons_succ] at hinv ⊢
    refine HeldZ.take (v:=?vq13_12) 12 hinv rfl (by kernel_rfl) (by kernel_rfl) (by decide) (by decide) (by kernel_rfl) (by kernel_rfl) (by kernel_rfl) (fun _ _ _ h=>h) hS (Or.inl ⟨by rfl,?hyq13_12⟩) ?_
    case hyq13_12=>(intro w hSw;(try dsimp only at hSw);go_simp;try with_reducible rfl)
    clear hinv
    intro hinv
    try simp only [List.getElem_toArray,List.getElem_cons_zero,List.getElem_cons_succ,Act.put,List.setIfInBounds_toArray,List.set_cons_zero,List.set_cons_succ] at hinv ⊢
    refine HeldZ.take (v:=?vq14_14) 14 hinv rfl (by kernel_rfl) (by kernel_rfl) (by decide) (by decide) (by kernel_rfl) (by kernel_rfl) (by kernel_rfl) (fun _ _ _ h=>h) hS (Or.inl ⟨by rfl,?hyq14_14⟩) ?_
    case hyq14_14=>(intro w hSw;(try dsimp only at hSw);go_simp;try with_reducible rfl)
    clear hinv
    intro hinv
    try simp only [List.getElem_toArray,List.getElem_cons_zero,List.getElem_cons_succ,Act.put,List.setIfInBounds_toArray,List.set_cons_zero,List.set_cons_succ] at hinv ⊢
    refine HeldZ.take (v:=?vq15_15) 15 hinv rfl (by kernel_rfl) (by kernel_rfl) (by decide) (by decide) (by kernel_rfl) (by kernel_rfl) (by kernel_rfl) (fun _ _ _ h=>h) hS (Or.inl ⟨by rfl,?hyq15_15⟩) ?_
    case hyq15_15=>(intro w hSw;(try dsimp only at hSw);go_simp;try with_reducible rfl)
    clear hinv
    intro hinv
    try simp only [List.getElem_toArray,List.getElem_cons_zero,List.getElem_cons_succ,Act.put,List.setIfInBounds_toArray,List.set_cons_zero,List.set_cons_succ] at hinv ⊢
    refine HeldZ.take (v:=?vq16_16) 16 hinv rfl (by kernel_rfl) (by kernel_rfl) (by decide) (by decide) (by kernel_rfl) (by kernel_rfl) (by kernel_rfl) (fun _ _ _ h=>h) hS (Or.inl ⟨by rfl,?hyq16_16⟩) ?_
    case hyq16_16=>(intro w hSw;(try dsimp only at hSw);go_simp;try with_reducible rfl)
    clear hinv
    intro hinv
    try simp only [List.getElem_toArray,List.getElem_cons_zero,List.getElem_cons_succ,Act.put,List.setIfInBounds_toArray,List.set_cons_zero,List.set_cons_succ] at hinv ⊢
    refine HeldZ.take (v:=?vq17_17) 17 hinv rfl (by kernel_rfl) (by kernel_rfl) (by decide) (by decide) (by kernel_rfl) (by kernel_rfl) (by kernel_rfl) (fun _ _ _ h=>h) hS (Or.inl ⟨by rfl,?hyq17_17⟩) ?_
    case hyq17_17=>(intro w hSw;(try dsimp only at hSw);go_simp;try with_reducible rfl)
    clear hinv
    intro hinv
    try simp only [List.getElem_toArray,List.getElem_cons_zero,List.getElem_cons_succ,Act.put,List.setIfInBounds_toArray,List.set_cons_zero,List.set_cons_succ] at hinv ⊢
    refine HeldZ.oneW 13 hinv (by kernel_rfl) rfl (by rfl) ?_
    clear hinv
    intro hinv K hK
    have hinv:=hinv (by decide)
    go_simp
    refine (HAl.out _ hcur).mono ?_
    rintro e w11 ⟨⟨A11,c11,rfl,hm11⟩,hbc⟩
    have HM11:=Lib.hid (Kd.M_bound hm11)
    have hcur:Below w5.heap.size w5 w11:=bel_step (by repeat (first | assumption | exact Below.refl _ _ | refine bel_drew ?_ | refine bel_alloc ?_ _)) hbc
    clear hS
    have hS:=HK3.out w11 hcur
    refine hK _ _ (fun _=>hS) ?_
    clear hK K
    try simp only [List.getElem_toArray,List.getElem_cons_zero,List.getElem_cons_succ,Act.put,List.setIfInBounds_toArray,List.set_cons_zero,List.set_cons_succ] at hinv ⊢
    refine HeldZ.oneW 18 hinv (by kernel_rfl) rfl (by rfl) ?_
    clear hinv
    intro hinv K hK
    have hinv:=hinv (by decide)
    go_simp
    refine (HSm8.out A11 c11 _ HM11.out hcur).mono ?_
    rintro e w12 ⟨rfl,hbc⟩
    have hcur:Below w5.heap.size w5 w12:=bel_step (by repeat (first | assumption | exact Below.refl _ _ | refine bel_drew ?_ | refine bel_alloc ?_ _)) hbc
    clear hS
    have hS:=HK3.out w12 hcur
    refine hK _ _ (fun _=>hS) ?_
    clear hK K
    try simp only [List.getElem_toArray,List.getElem_cons_zero,List.getElem_cons_succ,Act.put,List.setIfInBounds_toArray,List.set_cons_zero,List.set_cons_succ] at hinv ⊢
    refine HeldZ.take (v:=?vq18_19) 19 hinv rfl (by kernel_rfl) (by kernel_rfl) (by decide) (by decide) (by kernel_rfl) (by kernel_rfl) (by kernel_rfl) (fun _ _ _ h=>h) hS (Or.inl ⟨by rfl,?hyq18_19⟩) ?_
    case hyq18_19=>(intro w hSw;(try dsimp only at hSw);go_simp;try with_reducible rfl)
    clear hinv
    intro hinv
    try simp only [List.getElem_toArray,List.getElem_cons_zero,List.getElem_cons_succ,Act.put,List.setIfInBounds_toArray,List.set_cons_zero,List.set_cons_succ] at hinv ⊢
    refine HeldZ.take (v:=?vq19_20) 20 hinv rfl (by kernel_rfl) (by kernel_rfl) (by decide) (by decide) (by kernel_rfl) (by kernel_rfl) (by kernel_rfl) (fun _ _ _ h=>h) hS (Or.inl ⟨by rfl,?hyq19_20⟩) ?_
    case hyq19_20=>(intro w hSw;(try dsimp only at hSw);go_simp;try with_reducible rfl)
    clear hinv
    intro hinv
    try simp only [List.getElem_toArray,List.getElem_cons_zero,List.getElem_cons_succ,Act.put,List.setIfInBounds_toArray,List.set_cons_zero,List.set_cons_succ] at hinv ⊢
    refine HeldZ.take (v:=?vq20_21) 21 hinv rfl (by kernel_rfl) (by kernel_rfl) (by decide) (by decide) (by kernel_rfl) (by kernel_rfl) (by kernel_rfl) (fun _ _ _ h=>h) hS (Or.inl ⟨by rfl,?hyq20_21⟩) ?_
    case hyq20_21=>(intro w hSw;(try dsimp only at hSw);go_simp;try with_reducible rfl)
    clear hinv
    intro hinv
    try simp only [List.getElem_toArray,List.getElem_cons_zero,List.getElem_cons_succ,Act.put,List.setIfInBounds_toArray,List.set_cons_zero,List.set_cons_succ] at hinv ⊢
    refine HeldZ.take (v:=?vq21_24) 24 hinv rfl (by kernel_rfl) (by kernel_rfl) (by decide) (by decide) (by kernel_rfl) (by kernel_rfl) (by kernel_rfl) (fun _ _ _ h=>h) hS (Or.inl ⟨by rfl,?hyq21_24⟩) ?_
    case hyq21_24=>(intro w hSw;(try dsimp only at hSw);go_simp;try with_reducible rfl)
    clear hinv
    intro hinv
    try simp only [List.getElem_toArray,List.getElem_cons_zero,List.getElem_cons_succ,Act.put,List.setIfInBounds_toArray,List.set_cons_zero,List.set_cons_succ] at hinv ⊢
    refine HeldZ.oneW 22 hinv (by kernel_rfl) rfl (by rfl) ?_
    clear hinv
    intro hinv K hK
    have hinv:=hinv (by decide)
    go_simp
    refine (HEn.out _ hcur).mono ?_
    rintro e w13 ⟨⟨va,rfl,hoa⟩,hbc⟩
    have HMa:=Lib.hid (Kd.own_sl (ok:=fun _=>True) (ok':=fun _=>True) hoa (fun _ _=>trivial) (fun _ _=>trivial))
    obtain ⟨Aa,ca,rfl,_,_⟩:=Kd.own_slice hoa
    have hca:=conv_row HMa.out (Below.refl _ _)
    clear hoa
    have hcur:Below w5.heap.size w5 w13:=bel_step (by repeat (first | assumption | exact Below.refl _ _ | refine bel_drew ?_ | refine bel_alloc ?_ _)) hbc
    clear hS
    have hS:=HK3.out w13 hcur
    refine hK _ _ (fun _=>hS) ?_
    clear hK K
    try simp only [List.getElem_toArray,List.getElem_cons_zero,List.getElem_cons_succ,Act.put,List.setIfInBounds_toArray,List.set_cons_zero,List.set_cons_succ] at hinv ⊢
    refine HeldZ.twoW 23 25 hinv (by kernel_rfl) rfl (by rfl) rfl (by rfl) ?_ ?_
    ·
     clear hinv
     intro hinv K hK
     have hinv:=hinv (by decide)
     go_simp
     refine hK _ _ (fun _=>hS) ?_
     clear hK K
     try simp only [List.getElem_toArray,List.getElem_cons_zero,List.getElem_cons_succ,Act.put,List.setIfInBounds_toArray,List.set_cons_zero,List.set_cons_succ] at hinv ⊢
     refine HeldZ.oneW 25 hinv (by kernel_rfl) rfl (by rfl) ?_
     clear hinv
     intro hinv K hK
     have hinv:=hinv (by decide)
     go_simp
     refine (HRe.out _ hcur).mono ?_
     rintro e w14 ⟨⟨vb,rfl,hob⟩,hbc⟩
     have HMb:=Lib.hid (Kd.own_sl (ok:=fun _=>True) (ok':=fun _=>True) hob (fun _ _=>trivial) (fun _ _=>trivial))
     obtain ⟨Ab,cb,rfl,_,_⟩:=Kd.own_slice hob
     have hcb:=conv_row HMb.out (Below.refl _ _)
     clear hob
     have hca:=conv_row HMa.out hbc
     have hcur:Below w5.heap.size w5 w14:=bel_step (by repeat (first | assumption | exact Below.refl _ _ | refine bel_drew ?_ | refine bel_alloc ?_ _)) hbc
     clear hS
     have hS:=HK3.out w14 hcur
     refine hK _ _ (fun _=>hS) ?_
     clear hK K
     try simp only [List.getElem_toArray,List.getElem_cons_zero,List.getElem_cons_succ,Act.put,List.setIfInBounds_toArray,List.set_cons_zero,List.set_cons_succ] at hinv ⊢
     refine HeldZ.oneW 26 hinv (by kernel_rfl) rfl (by rfl) ?_
     clear hinv
     intro hinv K hK
     have hinv:=hinv (by decide)
     go_simp
     refine hK _ _ (fun _=>hS) ?_
     clear hK K
     try simp only [List.getElem_toArray,List.getElem_cons_zero,List.getElem_cons_succ,Act.put,List.setIfInBounds_toArray,List.set_cons_zero,List.set_cons_succ] at hinv ⊢
     refine HeldZ.take (v:=?vq22_27) 27 hinv rfl (by kernel_rfl) (by kernel_rfl) (by decide) (by decide) (by kernel_rfl) (by kernel_rfl) (by kernel_rfl) (fun _ _ _ h=>h) hS (Or.inl ⟨by rfl,?hyq22_27⟩) ?_
     case hyq22_27=>(intro w hSw;(try dsimp only at hSw);go_simp;try with_reducible rfl)
     clear hinv
     intro hinv
     try simp only [List.getElem_toArray,List.getElem_cons_zero,List.getElem_cons_succ,Act.put,List.setIfInBounds_toArray,List.set_cons_zero,List.set_cons_succ] at hinv ⊢
     refine HeldZ.take (v:=?vq23_28) 28 hinv rfl (by kernel_rfl) (by kernel_rfl) (by decide) (by decide) (by kernel_rfl) (by kernel_rfl) (by kernel_rfl) (fun _ _ _ h=>h) hS (Or.inl ⟨by rfl,?hyq23_28⟩) ?_
     case hyq23_28=>(intro w hSw;(try dsimp only at hSw);go_simp;try with_reducible rfl)
     clear hinv
     intro hinv
     try simp only [List.getElem_toArray,List.getElem_cons_zero,List.getElem_cons_succ,Act.put,List.setIfInBounds_toArray,List.set_cons_zero,List.set_cons_succ] at hinv ⊢
     refine HeldZ.oneW 29 hinv (by kernel_rfl) rfl (by rfl) ?_
     clear hinv
     intro _ K hK
     go_simp
     refine hK _ _ (fun h=>absurd rfl h) ?_
     refine HeldZ.done (by kernel_rfl) ?_ _
     have HBf:=Lib.hid (HS5.out.below hcur).bel
     clear hK K hS
     go_wp2
     go_ret
     exact ⟨rfl,HBf.out⟩
    ·
     clear hinv
     intro hinv K hK
     have hinv:=hinv (by decide)
     go_simp
     refine (HRe.out _ hcur).mono ?_
     rintro e w14 ⟨⟨vb,rfl,hob⟩,hbc⟩
     have HMb:=Lib.hid (Kd.own_sl (ok:=fun _=>True) (ok':=fun _=>True) hob (fun _ _=>trivial) (fun _ _=>trivial))
     obtain ⟨Ab,cb,rfl,_,_⟩:=Kd.own_slice hob
     have hcb:=conv_row HMb.out (Below.refl _ _)
     clear hob
     have hca:=conv_row HMa.out hbc
     have hcur:Below w5.heap.size w5 w14:=bel_step (by repeat (first | assumption | exact Below.refl _ _ | refine bel_drew ?_ | refine bel_alloc ?_ _)) hbc
     clear hS
     have hS:=HK3.out w14 hcur
     refine hK _ _ (fun _=>hS) ?_
     clear hK K
     try simp only [List.getElem_toArray,List.getElem_cons_zero,List.getElem_cons_succ,Act.put,List.setIfInBounds_toArray,List.set_cons_zero,List.set_cons_succ] at hinv ⊢
     refine HeldZ.twoW 23 26 hinv (by kernel_rfl) rfl (by rfl) rfl (by rfl) ?_ ?_
     ·
      clear hinv
      intro hinv K hK
      have hinv:=hinv (by decide)
      go_simp
      refine hK _ _ (fun _=>hS) ?_
      clear hK K
      try simp only [List.getElem_toArray,List.getElem_cons_zero,List.getElem_cons_succ,Act.put,List.setIfInBounds_toArray,List.set_cons_zero,List.set_cons_succ] at hinv ⊢
      refine HeldZ.oneW 26 hinv (by kernel_rfl) rfl (by rfl) ?_
      clear hinv
      intro hinv K hK
      have hinv:=hinv (by decide)
      go_simp
      refine hK _ _ (fun _=>hS) ?_
      clear hK K
      try simp only [List.getElem_toArray,List.getElem_cons_zero,List.getElem_cons_succ,Act.put,List.setIfInBounds_toArray,List.set_cons_zero,List.set_cons_succ] at hinv ⊢
      refine HeldZ.take (v:=?vq24_27) 27 hinv rfl (by kernel_rfl) (by kernel_rfl) (by decide) (by decide) (by kernel_rfl) (by kernel_rfl) (by kernel_rfl) (fun _ _ _ h=>h) hS (Or.inl ⟨by rfl,?hyq24_27⟩) ?_
      case hyq24_27=>(intro w hSw;(try dsimp only at hSw);go_simp;try with_reducible rfl)
      clear hinv
      intro hinv
      try simp only [List.getElem_toArray,List.getElem_cons_zero,List.getElem_cons_succ,Act.put,List.setIfInBounds_toArray,List.set_cons_zero,List.set_cons_succ] at hinv ⊢
      refine HeldZ.take (v:=?vq25_28) 28 hinv rfl (by kernel_rfl) (by kernel_rfl) (by decide) (by decide) (by kernel_rfl) (by kernel_rfl) (by kernel_rfl) (fun _ _ _ h=>h) hS (Or.inl ⟨by rfl,?hyq25_28⟩) ?_
      case hyq25_28=>(intro w hSw;(try dsimp only at hSw);go_simp;try with_reducible rfl)
      clear hinv
      intro hinv
      try simp only [List.getElem_toArray,List.getElem_cons_zero,List.getElem_cons_succ,Act.put,List.setIfInBounds_toArray,List.set_cons_zero,List.set_cons_succ] at hinv ⊢
      refine HeldZ.oneW 29 hinv (by kernel_rfl) rfl (by rfl) ?_
      clear hinv
      intro _ K hK
      go_simp
      refine hK _ _ (fun h=>absurd rfl h) ?_
      refine HeldZ.done (by kernel_rfl) ?_ _
      have HBf:=Lib.hid (HS5.out.below hcur).bel
      clear hK K hS
      go_wp2
      go_ret
      exact ⟨rfl,HBf.out⟩
     ·
      clear hinv
      intro hinv K hK
      have hinv:=hinv (by decide)
      go_simp
      refine hK _ _ (fun _=>hS) ?_
      clear hK K
      try simp only [List.getElem_toArray,List.getElem_cons_zero,List.getElem_cons_succ,Act.put,List.setIfInBounds_toArray,List.set_cons_zero,List.set_cons_succ] at hinv ⊢
      refine HeldZ.oneW 23 hinv (by kernel_rfl) rfl (by rfl) ?_
      clear hinv
      intro hinv K hK
      have hinv:=hinv (by decide)
      go_simp
      refine hK _ _ (fun _=>hS) ?_
      clear hK K
      try simp only [List.getElem_toArray,List.getElem_cons_zero,List.getElem_cons_succ,Act.put,List.setIfInBounds_toArray,List.set_cons_zero,List.set_cons_succ] at hinv ⊢
      refine HeldZ.take (v:=?vq26_27) 27 hinv rfl (by kernel_rfl) (by kernel_rfl) (by decide) (by decide) (by kernel_rfl) (by kernel_rfl) (by kernel_rfl) (fun _ _ _ h=>h) hS (Or.inl ⟨by rfl,?hyq26_27⟩) ?_
      case hyq26_27=>(intro w hSw;(try dsimp only at hSw);go_simp;try with_reducible rfl)
      clear hinv
      intro hinv
      try simp only [List.getElem_toArray,List.getElem_cons_zero,List.getElem_cons_succ,Act.put,List.setIfInBounds_toArray,List.set_cons_zero,List.set_cons_succ] at hinv ⊢
      refine HeldZ.take (v:=?vq27_28) 28 hinv rfl (by kernel_rfl) (by kernel_rfl) (by decide) (by decide) (by kernel_rfl) (by kernel_rfl) (by kernel_rfl) (fun _ _ _ h=>h) hS (Or.inl ⟨by rfl,?hyq27_28⟩) ?_
      case hyq27_28=>(intro w hSw;(try dsimp only at hSw);go_simp;try with_reducible rfl)
      clear hinv
      intro hinv
      try simp only [List.getElem_toArray,List.getElem_cons_zero,List.getElem_cons_succ,Act.put,List.setIfInBounds_toArray,List.set_cons_zero,List.set_cons_succ] at hinv ⊢
      refine HeldZ.oneW 29 hinv (by kernel_rfl) rfl (by rfl) ?_
      clear hinv
      intro _ K hK
      go_simp
      refine hK _ _ (fun h=>absurd rfl h) ?_
      refine HeldZ.done (by kernel_rfl) ?_ _
      have HBf:=Lib.hid (HS5.out.below hcur).bel
      clear hK K hS
      go_wp2
      go_ret
      exact ⟨rfl,HBf.out⟩
end Go.Proofs.YtnplommdgfgboaaGreatDoor.Alike
namespace Go.Proofs.YtnplommdgfgboaaGreatDoor.ParseR
open Go.Lib B Rd TermPure LinesPure SortP ParseP
def NoEnd (s:List UInt8) (k:Nat):Prop:=∀ b ∈ s.take k,b ≠ 10
theorem noEnd_zero (s:List UInt8):NoEnd s 0:=fun b hb=>by simp at hb
theorem noEnd_succ {s:List UInt8} {k:Nat} (h:NoEnd s k) (hk:k < s.length) (hb:s[k] ≠ 10):NoEnd s (k + 1):=fun b hx=>by
 rw [List.take_succ_eq_append_getElem hk,List.mem_append] at hx
 rcases hx with hx | hx
 ·
  exact h b hx
 ·
  simp at hx;rw [hx];exact hb
theorem cutL_none:∀ s:List UInt8,(∀ b ∈ s,b ≠ 10) → cutL s = (s,[],false)
 | [],_=>rfl
 | b :: l,h=>by rw [cutL,if_neg (h b (by simp)),cutL_none l (fun x hx=>h x (by simp [hx]))]
theorem cutL_at:∀ (s:List UInt8) (k:Nat) (hk:k < s.length),NoEnd s k → s[k] = 10 → cutL s = (s.take k,s.drop (k + 1),true)
 | b :: l,0,_,_,h=>by
  have h':b = 10:=h
  rw [cutL,if_pos h'];rfl
 | b :: l,k + 1,hk,hn,h=>by
  rw [cutL,if_neg (hn b (by simp)),cutL_at l k (by simpa using hk) (fun x hx=>hn x (by simp [hx])) h]
  try rfl
theorem line_last {s:List UInt8} (h:NoEnd s s.length):lineS s = s∧restS s = []:=by
 have e:=cutL_none s (fun b hb=>h b (by rw [List.take_length];exact hb))
 unfold lineS restS
 rw [e]
 exact ⟨rfl,rfl⟩
theorem rest_at {s:List UInt8} {k:Nat} (hk:k < s.length) (h:NoEnd s k) (h10:s[k] = 10):restS s = s.drop (k + 1):=by
 unfold restS
 rw [cutL_at s k hk h h10]
theorem suf_cr (x:List UInt8):Lib.hasSuffix (x ++ [13]) [13] = true:=(suffix_iff _).2 ⟨x,rfl⟩
theorem suf_not (x:List UInt8) (b:UInt8) (h:b ≠ 13):Lib.hasSuffix (x ++ [b]) [13] = false:=by
 cases e:Lib.hasSuffix (x ++ [b]) [13] with
 | false=>rfl
 | true =>
  obtain ⟨y,hy⟩:=(suffix_iff _).1 e
  have h2:=List.append_inj_right' hy rfl
  simp at h2
  exact absurd h2 h
theorem trim_cr (x:List UInt8):Lib.trimSuffix (x ++ [13]) [13] = x:=by
 unfold Lib.trimSuffix
 rw [if_pos (suf_cr x)]
 simp
theorem trim_not (x:List UInt8) (b:UInt8) (h:b ≠ 13):Lib.trimSuffix (x ++ [b]) [13] = x ++ [b]:=by
 unfold Lib.trimSuffix
 rw [if_neg (by rw [suf_not x b h];decide)]
theorem line_cr {s:List UInt8} {k:Nat} (hk:k < s.length) (h:NoEnd s k) (h10:s[k] = 10) (h0:0 < k) (h13:s[k - 1]'(by omega) = 13):lineS s = s.take (k - 1):=by
 unfold lineS
 rw [cutL_at s k hk h h10]
 obtain ⟨j,rfl⟩:∃ j,k = j + 1:=⟨k - 1,by omega⟩
 simp only [Nat.add_sub_cancel] at h13
 show (if true = true then Lib.trimSuffix (s.take (j + 1)) [13] else s.take (j + 1)) = s.take j
 rw [if_pos rfl,List.take_succ_eq_append_getElem (by omega),h13,trim_cr]
theorem line_not {s:List UInt8} {k:Nat} (hk:k < s.length) (h:NoEnd s k) (h10:s[k] = 10) (h0:0 < k) (h13:s[k - 1]'(by omega) ≠ 13):lineS s = s.take k:=by
 unfold lineS
 rw [cutL_at s k hk h h10]
 obtain ⟨j,rfl⟩:∃ j,k = j + 1:=⟨k - 1,by omega⟩
 simp only [Nat.add_sub_cancel] at h13
 rw [if_pos rfl,List.take_succ_eq_append_getElem (by omega),trim_not _ _ h13]
theorem line_none {s:List UInt8} (hk:0 < s.length) (h10:s[0] = 10):lineS s = []:=by
 unfold lineS
 rw [cutL_at s 0 hk (noEnd_zero s) h10,if_pos rfl]
 try rfl
theorem sortT_snoc (T:List Triple) (t:Triple):sortT (T ++ [t]) = putT (sortT T) t:=by
 unfold sortT
 rw [List.foldl_append]
 try rfl
theorem sortT_old {T:List Triple} {t:Triple} (hv:Valid T) (h:t ∈ T):putT (sortT T) t = sortT T:=by
 rw [← sortT_snoc]
 have hv2:Valid (T ++ [t]):=fun x hx=>by
  rcases List.mem_append.1 hx with h1 | h1
  ·
   exact hv x h1
  ·
   simp at h1;rw [h1];exact hv t h
 refine (sortT_eq hv2 (sortT_rise hv) (fun x=>?_)).symm
 rw [sortT_mem hv]
 simp only [List.mem_append,List.mem_cons,List.not_mem_nil,or_false]
 exact ⟨fun hx=>.inl hx,fun hx=>hx.elim id (fun e=>by rw [e];exact h)⟩
theorem putT_new:∀ (l:List Triple) (t:Triple),(∀ x ∈ l,cmpT x t ≠ 0) → (putT l t).length = l.length + 1
 | [],t,_=>rfl
 | x :: l,t,h=>by
  rw [putT]
  split
  ·
   simp [putT_new l t (fun y hy=>h y (by simp [hy]))]
  ·
   rw [if_neg (h x (by simp))]
   simp
end Go.Proofs.YtnplommdgfgboaaGreatDoor.ParseR
namespace Go.Proofs.YtnplommdgfgboaaGreatDoor.ParseR
open Go.RowKit Go.Lib B Rd TermPure LinesPure Tri SortP Cmp Env ParseP
def RParsed (w:World) (r:Res) (e:Ending) (w':World):Prop:=
 ((r.2.2 = 0∧∃ A c,e = .returned (.tuple #[.slice A r.1.length c,.int .i64 r.2.1,.int .i64 0])∧triK.sl.M w' (fun _=>True) r.1 [.slice A r.1.length c]) ∨ (r.2.2 ≠ 0∧e = .returned (.tuple #[.slice none 0 0,.int .i64 r.2.1,.int .i64 r.2.2])))∧Below w.heap.size w w'
structure RSt (w wr:World) (A:Option Addr) (c:Nat) (T:List Triple):Prop where
 valid:Valid T
 len:(sortT T).length = T.length
 row:triK.sl.M wr (fun _=>True) (sortT T) [.slice A (sortT T).length c]
 bel:Below w.heap.size w wr
theorem RSt.below {w wr w1:World} {A:Option Addr} {c:Nat} {T:List Triple} (h:RSt w wr A c T) (hb:Below wr.heap.size wr w1):RSt w w1 A c T:=
 ⟨h.valid,h.len,triK.sl.mono (fun _ _ _=>trivial) (Kd.M_below (Kd.M_bound h.row) hb),bel_step h.bel hb⟩
set_option maxHeartbeats 12800000 in
set_option maxRecDepth 100000 in
theorem refparse_calls (s:List UInt8) (hs:s.length ≤ 140737488355328) (w:World) (he:Env w) :
  Calls Tryz.prog 63 #[.string (mkS s)] w (RParsed w (parse s)):=by
 have z:=mkS_size s
 by_cases hl:20000 < s.length
 ·
  have hP:Hid (parse s = ([],0,4)):=Lib.hid (by rw [parse,if_pos hl])
  have hd:decide ((20000:Int) < (s.length:Int)) = true:=decide_eq_true (by omega)
  clear he
  go_enter Tryz.func63,Tryz.ntmps63
  go_wp2
  go_ret3
  rw [hP.out]
  exact ⟨.inr ⟨by decide,rfl⟩,Below.refl _ _⟩
 ·
  have hle:s.length ≤ 20000:=by omega
  have hd:decide ((20000:Int) < (s.length:Int)) = false:=decide_eq_false (by omega)
  have HP:Hid (pg s [] 0 = parse s):=Lib.hid (by rw [parse,if_neg hl])
  have HE:=Lib.hid he
  clear he hl
  go_enter Tryz.func63,Tryz.ntmps63
  go_wp2
  go_loopg [0,5,6] (s.length) (fun k v0 v5 v6 wr=>∃ (r:List UInt8) (T:List Triple) (n:Nat) (A:Option Addr) (c:Nat),v5 = .slice A (sortT T).length c∧Hid (r.length = k)∧v0 = .string (mkS r)∧v6 = .int .i64 n∧n ≤ 200∧r.length ≤ 20000∧T.length ≤ 100∧Hid (RSt w wr A c T)∧Hid (pg r T n = parse s))
  case atStart=>exact ⟨s,[],0,none,0,rfl,Lib.hid rfl,rfl,rfl,by omega,hle,by simp,Lib.hid ⟨fun _ h=>(by cases h),rfl,⟨none,0,rfl,Nat.le_refl _,⟨Nat.zero_le _,Nat.zero_le _⟩,fun _=>rfl,Kd.row_nil _ _ _ _⟩,Below.refl _ _⟩,HP⟩
  case round =>
   obtain ⟨r,T,n,A,c,rfl,HK,rfl,rfl,hn,hr,hT,HS,HG⟩:=hrel
   clear HP z hd hle hs
   have z:=mkS_size r
   have zl:=mkS_toList r
   by_cases hr0:r = []
   ·
    have HR:Hid (parse s = (sortT T,n,0)):=Lib.hid (by rw [← HG.out,hr0,pg_nil])
    subst hr0
    go_wp2
    go_ret3
    rw [HR.out]
    exact ⟨.inl ⟨rfl,A,c,rfl,HS.out.row⟩,HS.out.bel⟩
   ·
    have hE:r.isEmpty = false:=by
     cases r with
     | nil=>exact absurd rfl hr0
     | cons b l=>rfl
    go_wp2
    go_loopw [7] (fun vk wr=>∃ k:Nat,vk = .int .i64 k∧k ≤ r.length∧Hid (NoEnd r k∧RSt w wr A c T)) (fun vk _=>r.length - (intOf vk).toNat)
    case atStart=>exact ⟨0,rfl,by omega,Lib.hid ⟨noEnd_zero _,HS.out⟩⟩
    case round =>
     obtain ⟨k,rfl,hk,HI⟩:=hrel
     clear HS
     by_cases hlt:k < r.length
     ·
      have hd:decide (k < r.length) = true:=decide_eq_true hlt
      have e1:decide ((k:Int) < (r.length:Int)) = true:=decide_eq_true (by omega)
      have ka:k < (mkS r).size:=by rw [z];exact hlt
      have ga:(mkS r)[k]'ka = r[k]:=Rd.mkS_get r k ka hlt
      have ik:(k:Int) < (r.length:Int):=by omega
      obtain ⟨x,hx⟩:∃ x,x = r[k]:=⟨_,rfl⟩
      rw [← hx] at ga
      obtain ⟨p,hp⟩:∃ p,p = x.toNat:=⟨_,rfl⟩
      have hxp:x.toNat = p:=hp.symm
      by_cases h10:x = 10
      ·
       have hp10:((p:Int) != 10) = false:=by rw [hp,h10];rfl
       have h10':r[k] = 10:=hx.symm.trans h10
       obtain ⟨D,hD⟩:∃ D,D = r.drop (k + 1):=⟨_,rfl⟩
       have HQ:Hid (mkS D = mkS (restS r)):=Lib.hid (by rw [hD,rest_at hlt HI.out.1 h10'])
       have hx2:(mkS r).extract (k + 1) r.length = mkS D:=by rw [hD,mkS_extract];congr 1;rw [List.take_of_length_le (by rw [List.length_drop];omega)]
       clear hD
       have hmin:min ((k:Int) + 1) (r.length:Int) = (k:Int) + 1:=by omega
       have hx1:(mkS r).extract 0 k = mkS (r.take k):=by rw [mkS_extract];congr 1
       have HS:=Lib.hid HI.out.2
       by_cases h0:k = 0
       ·
        subst h0
        have HL:Hid (ByteArray.empty = mkS (lineS r)):=Lib.hid (by rw [line_none hlt h10'];rfl)
        have hx3:(mkS r).extract 1 r.length = mkS D:=hx2
        have hmin2:min (1:Int) (r.length:Int) = 1:=by omega
        clear h10 h10' hx hp HI hx2 hmin
        go_upto_region 13 with fail
        obtain ⟨y,hy⟩:∃ y,y = lineS r:=⟨_,rfl⟩
        obtain ⟨q,hq⟩:∃ q,q = restS r:=⟨_,rfl⟩
        rw [← hy] at HL
        rw [← hq] at HQ
        rw [HL.out,HQ.out]
        have hyl:y.length ≤ 20000:=by have:=lineS_len r;rw [hy];omega
        have hql:q.length < r.length:=by rw [hq];exact cutL_rest r hr0
        have HOne:=Lib.hid (Ref5.one_calls y (by omega) wr (HE.out.below HS.out.bel))
        rw [LineEq.lineOf_one] at HOne
        have HQM:Hid (q.length < gk):=Lib.hid (by rw [← HK.out];exact hql)
        have HY:=Lib.hid hy
        have HQ2:=Lib.hid hq
        clear HL HQ hy hq
        by_cases h200:200 < n + 1
        ·
         have HR:Hid (parse s = ([],n + 1,3)):=Lib.hid (by rw [← HG.out,pg_full r T n hr0 h200])
         have hd2:decide ((200:Int) < (n:Int) + 1) = true:=decide_eq_true (by omega)
         go_wp2
         go_ret3
         rw [HR.out]
         exact ⟨.inr ⟨by show (3:Int) ≠ 0;decide,rfl⟩,HS.out.bel⟩
        have hd2:decide ((200:Int) < (n:Int) + 1) = false:=decide_eq_false (by omega)
        go_wp2_with fail
        refine HOne.out.mono ?_
        rintro e w3 ⟨⟨rfl,hfo⟩,hb⟩
        have HS3:Hid (RSt w w3 A c T):=Lib.hid ⟨HS.out.valid,HS.out.len,triK.sl.mono (fun _ _ _=>trivial) (Kd.M_below (Kd.M_bound HS.out.row) hb),bel_step HS.out.bel hb⟩
        have HFo:=Lib.hid hfo
        clear hb hfo HOne HS
        obtain ⟨ln,hln⟩:∃ ln,ln = lineOf false y:=⟨_,rfl⟩
        rw [← hln] at HFo
        rw [← hln]
        rw [HY.out] at hln
        have HLn:=Lib.hid hln.symm
        clear hln
        match ln with
        | none =>
         have HR:Hid (parse s = ([],n + 1,2)):=Lib.hid (by rw [← HG.out,pg_bad r T n hr0 h200 HLn.out])
         unfold Ref5.oneV Ref5.tripleV Ref5.zeroTr Tc.zeroT
         dsimp only
         go_wp2
         go_ret3
         rw [HR.out]
         exact ⟨.inr ⟨by show (2:Int) ≠ 0;decide,rfl⟩,bel_alloc HS3.out.bel _⟩
        | some none =>
         have HN:Hid (pg q T (n + 1) = parse s):=Lib.hid (by rw [← HG.out,pg_none r T n hr0 h200 HLn.out,HQ2.out])
         have hd3:decide ((100:Int) < ((sortT T).length:Int)) = false:=decide_eq_false (by have:=HS3.out.len;omega)
         unfold Ref5.oneV Ref5.tripleV Ref5.zeroTr Tc.zeroT
         dsimp only
         go_wp2
         go_roundg q.length
         case measure=>exact HQM.out
         case rel=>exact ⟨q,T,n + 1,A,c,rfl,Lib.hid rfl,rfl,by go_num,by omega,by omega,hT,Lib.hid (HS3.out.below (bel_alloc (Below.refl _ _) _)),HN⟩
        | some (some t) =>
         have HIs:=Lib.hid (lineOf_is HLn.out)
         have HPut:=Lib.hid (fun W (hW:Below w3.heap.size w3 W)=>SortW.put_calls (sortT T) t A c W (triK.sl.mono (fun k _ hk=>hk) (Kd.M_below (Kd.M_bound HS3.out.row) hW)) (fun x hx=>(Parse.valid_small (HS3.out.valid x ((sortT_mem HS3.out.valid x).1 hx))).1) (Parse.valid_small HIs.out).1 (Parse.valid_small HIs.out).2 (by have:=HS3.out.len;omega))
         by_cases ht:t ∈ T
         ·
          have HN:Hid (pg q T (n + 1) = parse s):=Lib.hid (by rw [← HG.out,pg_old r T n t hr0 h200 HLn.out ht,HQ2.out])
          rw [sortT_old HS3.out.valid ht] at HPut
          have hd3:decide ((100:Int) < ((sortT T).length:Int)) = false:=decide_eq_false (by have:=HS3.out.len;omega)
          clear ht
          unfold Ref5.oneV
          unfold Ref5.tripleV at HPut ⊢
          dsimp only at HPut ⊢
          go_wp2_with fail
          refine (HPut.out _ (bel_alloc (Below.refl _ _) _)).mono ?_
          rintro e w4 ⟨A4,c4,rfl,hM4,hb4⟩
          have HS4:Hid (RSt w w4 A4 c4 T):=Lib.hid ⟨HS3.out.valid,HS3.out.len,hM4,bel_step (bel_alloc HS3.out.bel _) hb4⟩
          clear hM4 hb4 HPut
          go_wp2
          go_roundg q.length
          case measure=>exact HQM.out
          case rel=>exact ⟨q,T,n + 1,A4,c4,rfl,Lib.hid rfl,rfl,by go_num,by omega,by omega,hT,HS4,HN⟩
         ·
          have hv2:Valid (T ++ [t]):=fun x hx=>(List.mem_append.1 hx).elim (HS3.out.valid x) (fun hx=>by simp at hx;subst hx;exact HIs.out)
          have hln2:(sortT (T ++ [t])).length = T.length + 1:=by
           rw [sortT_snoc,putT_new (sortT T) t (fun x hx he=>ht (by
            have h1:=(sortT_mem HS3.out.valid x).1 hx
            rw [← (cmpT_eq (HS3.out.valid x h1) HIs.out).1 he]
            exact h1)),HS3.out.len]
          rw [← sortT_snoc] at HPut
          have HV2:=Lib.hid hv2
          have HLn2:=Lib.hid hln2
          have HNot:=Lib.hid ht
          clear hv2 hln2 ht
          by_cases h100:100 < T.length + 1
          ·
           have HR:Hid (parse s = ([],n + 1,3)):=Lib.hid (by rw [← HG.out,pg_many r T n t hr0 h200 HLn.out HNot.out h100])
           have hd3:decide ((100:Int) < ((sortT (T ++ [t])).length:Int)) = true:=decide_eq_true (by have:=HLn2.out;omega)
           unfold Ref5.oneV
           unfold Ref5.tripleV at HPut ⊢
           dsimp only at HPut ⊢
           go_wp2_with fail
           refine (HPut.out _ (bel_alloc (Below.refl _ _) _)).mono ?_
           rintro e w4 ⟨A4,c4,rfl,hM4,hb4⟩
           have HB4:=Lib.hid (bel_step (bel_alloc HS3.out.bel _) hb4)
           clear hM4 hb4 HPut
           go_wp2
           go_ret3
           rw [HR.out]
           exact ⟨.inr ⟨by show (3:Int) ≠ 0;decide,rfl⟩,HB4.out⟩
          ·
           have HN:Hid (pg q (T ++ [t]) (n + 1) = parse s):=Lib.hid (by rw [← HG.out,pg_new r T n t hr0 h200 HLn.out HNot.out h100,HQ2.out])
           have hd3:decide ((100:Int) < ((sortT (T ++ [t])).length:Int)) = false:=decide_eq_false (by have:=HLn2.out;omega)
           unfold Ref5.oneV
           unfold Ref5.tripleV at HPut ⊢
           dsimp only at HPut ⊢
           go_wp2_with fail
           refine (HPut.out _ (bel_alloc (Below.refl _ _) _)).mono ?_
           rintro e w4 ⟨A4,c4,rfl,hM4,hb4⟩
           have HS4:Hid (RSt w w4 A4 c4 (T ++ [t])):=Lib.hid ⟨HV2.out,by rw [HLn2.out];simp,hM4,bel_step (bel_alloc HS3.out.bel _) hb4⟩
           clear hM4 hb4 HPut
           go_wp2
           go_roundg q.length
           case measure=>exact HQM.out
           case rel=>exact ⟨q,T ++ [t],n + 1,A4,c4,rfl,Lib.hid rfl,rfl,by go_num,by omega,by omega,by simp;omega,HS4,HN⟩
       ·
        have hj:k - 1 < r.length:=by omega
        have kj:k - 1 < (mkS r).size:=by rw [z];exact hj
        have gj:(mkS r)[k - 1]'kj = r[k - 1]:=Rd.mkS_get r (k - 1) kj hj
        obtain ⟨u,hu⟩:∃ u,u = r[k - 1]:=⟨_,rfl⟩
        rw [← hu] at gj
        have hwj:IntKind.i64.wrap ((k:Int) - 1) = ((k - 1:Nat):Int):=by rw [IntKind.wrap_i64];omega
        have wj:(k:Int) - 1 = ((k - 1:Nat):Int):=by omega
        have ij:((k - 1:Nat):Int) < (r.length:Int):=by omega
        have k0:(0:Int) < (k:Int):=by omega
        obtain ⟨v,hv⟩:∃ v,v = u.toNat:=⟨_,rfl⟩
        have huv:u.toNat = v:=hv.symm
        by_cases h13:u = 13
        ·
         have hv13:((v:Int) == 13) = true:=by rw [hv,h13];rfl
         have HL:Hid (mkS (r.take (k - 1)) = mkS (lineS r)):=Lib.hid (by rw [line_cr hlt HI.out.1 h10' (by omega) (hu.symm.trans h13)])
         have hx3:(mkS r).extract 0 (k - 1) = mkS (r.take (k - 1)):=by rw [mkS_extract];congr 1
         clear h10 h10' hx hp HI hu hv h13
         go_upto_region 13 with fail
         obtain ⟨y,hy⟩:∃ y,y = lineS r:=⟨_,rfl⟩
         obtain ⟨q,hq⟩:∃ q,q = restS r:=⟨_,rfl⟩
         rw [← hy] at HL
         rw [← hq] at HQ
         rw [HL.out,HQ.out]
         have hyl:y.length ≤ 20000:=by have:=lineS_len r;rw [hy];omega
         have hql:q.length < r.length:=by rw [hq];exact cutL_rest r hr0
         have HOne:=Lib.hid (Ref5.one_calls y (by omega) wr (HE.out.below HS.out.bel))
         rw [LineEq.lineOf_one] at HOne
         have HQM:Hid (q.length < gk):=Lib.hid (by rw [← HK.out];exact hql)
         have HY:=Lib.hid hy
         have HQ2:=Lib.hid hq
         clear HL HQ hy hq
         by_cases h200:200 < n + 1
         ·
          have HR:Hid (parse s = ([],n + 1,3)):=Lib.hid (by rw [← HG.out,pg_full r T n hr0 h200])
          have hd2:decide ((200:Int) < (n:Int) + 1) = true:=decide_eq_true (by omega)
          go_wp2
          go_ret3
          rw [HR.out]
          exact ⟨.inr ⟨by show (3:Int) ≠ 0;decide,rfl⟩,HS.out.bel⟩
         have hd2:decide ((200:Int) < (n:Int) + 1) = false:=decide_eq_false (by omega)
         go_wp2_with fail
         refine HOne.out.mono ?_
         rintro e w3 ⟨⟨rfl,hfo⟩,hb⟩
         have HS3:Hid (RSt w w3 A c T):=Lib.hid ⟨HS.out.valid,HS.out.len,triK.sl.mono (fun _ _ _=>trivial) (Kd.M_below (Kd.M_bound HS.out.row) hb),bel_step HS.out.bel hb⟩
         have HFo:=Lib.hid hfo
         clear hb hfo HOne HS
         obtain ⟨ln,hln⟩:∃ ln,ln = lineOf false y:=⟨_,rfl⟩
         rw [← hln] at HFo
         rw [← hln]
         rw [HY.out] at hln
         have HLn:=Lib.hid hln.symm
         clear hln
         match ln with
         | none =>
          have HR:Hid (parse s = ([],n + 1,2)):=Lib.hid (by rw [← HG.out,pg_bad r T n hr0 h200 HLn.out])
          unfold Ref5.oneV Ref5.tripleV Ref5.zeroTr Tc.zeroT
          dsimp only
          go_wp2
          go_ret3
          rw [HR.out]
          exact ⟨.inr ⟨by show (2:Int) ≠ 0;decide,rfl⟩,bel_alloc HS3.out.bel _⟩
         | some none =>
          have HN:Hid (pg q T (n + 1) = parse s):=Lib.hid (by rw [← HG.out,pg_none r T n hr0 h200 HLn.out,HQ2.out])
          have hd3:decide ((100:Int) < ((sortT T).length:Int)) = false:=decide_eq_false (by have:=HS3.out.len;omega)
          unfold Ref5.oneV Ref5.tripleV Ref5.zeroTr Tc.zeroT
          dsimp only
          go_wp2
          go_roundg q.length
          case measure=>exact HQM.out
          case rel=>exact ⟨q,T,n + 1,A,c,rfl,Lib.hid rfl,rfl,by go_num,by omega,by omega,hT,Lib.hid (HS3.out.below (bel_alloc (Below.refl _ _) _)),HN⟩
         | some (some t) =>
          have HIs:=Lib.hid (lineOf_is HLn.out)
          have HPut:=Lib.hid (fun W (hW:Below w3.heap.size w3 W)=>SortW.put_calls (sortT T) t A c W (triK.sl.mono (fun k _ hk=>hk) (Kd.M_below (Kd.M_bound HS3.out.row) hW)) (fun x hx=>(Parse.valid_small (HS3.out.valid x ((sortT_mem HS3.out.valid x).1 hx))).1) (Parse.valid_small HIs.out).1 (Parse.valid_small HIs.out).2 (by have:=HS3.out.len;omega))
          by_cases ht:t ∈ T
          ·
           have HN:Hid (pg q T (n + 1) = parse s):=Lib.hid (by rw [← HG.out,pg_old r T n t hr0 h200 HLn.out ht,HQ2.out])
           rw [sortT_old HS3.out.valid ht] at HPut
           have hd3:decide ((100:Int) < ((sortT T).length:Int)) = false:=decide_eq_false (by have:=HS3.out.len;omega)
           clear ht
           unfold Ref5.oneV
           unfold Ref5.tripleV at HPut ⊢
           dsimp only at HPut ⊢
           go_wp2_with fail
           refine (HPut.out _ (bel_alloc (Below.refl _ _) _)).mono ?_
           rintro e w4 ⟨A4,c4,rfl,hM4,hb4⟩
           have HS4:Hid (RSt w w4 A4 c4 T):=Lib.hid ⟨HS3.out.valid,HS3.out.len,hM4,bel_step (bel_alloc HS3.out.bel _) hb4⟩
           clear hM4 hb4 HPut
           go_wp2
           go_roundg q.length
           case measure=>exact HQM.out
           case rel=>exact ⟨q,T,n + 1,A4,c4,rfl,Lib.hid rfl,rfl,by go_num,by omega,by omega,hT,HS4,HN⟩
          ·
           have hv2:Valid (T ++ [t]):=fun x hx=>(List.mem_append.1 hx).elim (HS3.out.valid x) (fun hx=>by simp at hx;subst hx;exact HIs.out)
           have hln2:(sortT (T ++ [t])).length = T.length + 1:=by
            rw [sortT_snoc,putT_new (sortT T) t (fun x hx he=>ht (by
             have h1:=(sortT_mem HS3.out.valid x).1 hx
             rw [← (cmpT_eq (HS3.out.valid x h1) HIs.out).1 he]
             exact h1)),HS3.out.len]
           rw [← sortT_snoc] at HPut
           have HV2:=Lib.hid hv2
           have HLn2:=Lib.hid hln2
           have HNot:=Lib.hid ht
           clear hv2 hln2 ht
           by_cases h100:100 < T.length + 1
           ·
            have HR:Hid (parse s = ([],n + 1,3)):=Lib.hid (by rw [← HG.out,pg_many r T n t hr0 h200 HLn.out HNot.out h100])
            have hd3:decide ((100:Int) < ((sortT (T ++ [t])).length:Int)) = true:=decide_eq_true (by have:=HLn2.out;omega)
            unfold Ref5.oneV
            unfold Ref5.tripleV at HPut ⊢
            dsimp only at HPut ⊢
            go_wp2_with fail
            refine (HPut.out _ (bel_alloc (Below.refl _ _) _)).mono ?_
            rintro e w4 ⟨A4,c4,rfl,hM4,hb4⟩
            have HB4:=Lib.hid (bel_step (bel_alloc HS3.out.bel _) hb4)
            clear hM4 hb4 HPut
            go_wp2
            go_ret3
            rw [HR.out]
            exact ⟨.inr ⟨by show (3:Int) ≠ 0;decide,rfl⟩,HB4.out⟩
           ·
            have HN:Hid (pg q (T ++ [t]) (n + 1) = parse s):=Lib.hid (by rw [← HG.out,pg_new r T n t hr0 h200 HLn.out HNot.out h100,HQ2.out])
            have hd3:decide ((100:Int) < ((sortT (T ++ [t])).length:Int)) = false:=decide_eq_false (by have:=HLn2.out;omega)
            unfold Ref5.oneV
            unfold Ref5.tripleV at HPut ⊢
            dsimp only at HPut ⊢
            go_wp2_with fail
            refine (HPut.out _ (bel_alloc (Below.refl _ _) _)).mono ?_
            rintro e w4 ⟨A4,c4,rfl,hM4,hb4⟩
            have HS4:Hid (RSt w w4 A4 c4 (T ++ [t])):=Lib.hid ⟨HV2.out,by rw [HLn2.out];simp,hM4,bel_step (bel_alloc HS3.out.bel _) hb4⟩
            clear hM4 hb4 HPut
            go_wp2
            go_roundg q.length
            case measure=>exact HQM.out
            case rel=>exact ⟨q,T ++ [t],n + 1,A4,c4,rfl,Lib.hid rfl,rfl,by go_num,by omega,by omega,by simp;omega,HS4,HN⟩
        ·
         have hv13:((v:Int) == 13) = false:=by
          rw [beq_eq_false_iff_ne,hv]
          intro h
          exact h13 (UInt8.toNat_inj.1 (by simp;omega))
         have HL:Hid (mkS (r.take k) = mkS (lineS r)):=Lib.hid (by rw [line_not hlt HI.out.1 h10' (by omega) (fun e=>h13 (hu.trans e))])
         clear h10 h10' hx hp HI hu hv h13
         go_upto_region 13 with fail
         obtain ⟨y,hy⟩:∃ y,y = lineS r:=⟨_,rfl⟩
         obtain ⟨q,hq⟩:∃ q,q = restS r:=⟨_,rfl⟩
         rw [← hy] at HL
         rw [← hq] at HQ
         rw [HL.out,HQ.out]
         have hyl:y.length ≤ 20000:=by have:=lineS_len r;rw [hy];omega
         have hql:q.length < r.length:=by rw [hq];exact cutL_rest r hr0
         have HOne:=Lib.hid (Ref5.one_calls y (by omega) wr (HE.out.below HS.out.bel))
         rw [LineEq.lineOf_one] at HOne
         have HQM:Hid (q.length < gk):=Lib.hid (by rw [← HK.out];exact hql)
         have HY:=Lib.hid hy
         have HQ2:=Lib.hid hq
         clear HL HQ hy hq
         by_cases h200:200 < n + 1
         ·
          have HR:Hid (parse s = ([],n + 1,3)):=Lib.hid (by rw [← HG.out,pg_full r T n hr0 h200])
          have hd2:decide ((200:Int) < (n:Int) + 1) = true:=decide_eq_true (by omega)
          go_wp2
          go_ret3
          rw [HR.out]
          exact ⟨.inr ⟨by show (3:Int) ≠ 0;decide,rfl⟩,HS.out.bel⟩
         have hd2:decide ((200:Int) < (n:Int) + 1) = false:=decide_eq_false (by omega)
         go_wp2_with fail
         refine HOne.out.mono ?_
         rintro e w3 ⟨⟨rfl,hfo⟩,hb⟩
         have HS3:Hid (RSt w w3 A c T):=Lib.hid ⟨HS.out.valid,HS.out.len,triK.sl.mono (fun _ _ _=>trivial) (Kd.M_below (Kd.M_bound HS.out.row) hb),bel_step HS.out.bel hb⟩
         have HFo:=Lib.hid hfo
         clear hb hfo HOne HS
         obtain ⟨ln,hln⟩:∃ ln,ln = lineOf false y:=⟨_,rfl⟩
         rw [← hln] at HFo
         rw [← hln]
         rw [HY.out] at hln
         have HLn:=Lib.hid hln.symm
         clear hln
         match ln with
         | none =>
          have HR:Hid (parse s = ([],n + 1,2)):=Lib.hid (by rw [← HG.out,pg_bad r T n hr0 h200 HLn.out])
          unfold Ref5.oneV Ref5.tripleV Ref5.zeroTr Tc.zeroT
          dsimp only
          go_wp2
          go_ret3
          rw [HR.out]
          exact ⟨.inr ⟨by show (2:Int) ≠ 0;decide,rfl⟩,bel_alloc HS3.out.bel _⟩
         | some none =>
          have HN:Hid (pg q T (n + 1) = parse s):=Lib.hid (by rw [← HG.out,pg_none r T n hr0 h200 HLn.out,HQ2.out])
          have hd3:decide ((100:Int) < ((sortT T).length:Int)) = false:=decide_eq_false (by have:=HS3.out.len;omega)
          unfold Ref5.oneV Ref5.tripleV Ref5.zeroTr Tc.zeroT
          dsimp only
          go_wp2
          go_roundg q.length
          case measure=>exact HQM.out
          case rel=>exact ⟨q,T,n + 1,A,c,rfl,Lib.hid rfl,rfl,by go_num,by omega,by omega,hT,Lib.hid (HS3.out.below (bel_alloc (Below.refl _ _) _)),HN⟩
         | some (some t) =>
          have HIs:=Lib.hid (lineOf_is HLn.out)
          have HPut:=Lib.hid (fun W (hW:Below w3.heap.size w3 W)=>SortW.put_calls (sortT T) t A c W (triK.sl.mono (fun k _ hk=>hk) (Kd.M_below (Kd.M_bound HS3.out.row) hW)) (fun x hx=>(Parse.valid_small (HS3.out.valid x ((sortT_mem HS3.out.valid x).1 hx))).1) (Parse.valid_small HIs.out).1 (Parse.valid_small HIs.out).2 (by have:=HS3.out.len;omega))
          by_cases ht:t ∈ T
          ·
           have HN:Hid (pg q T (n + 1) = parse s):=Lib.hid (by rw [← HG.out,pg_old r T n t hr0 h200 HLn.out ht,HQ2.out])
           rw [sortT_old HS3.out.valid ht] at HPut
           have hd3:decide ((100:Int) < ((sortT T).length:Int)) = false:=decide_eq_false (by have:=HS3.out.len;omega)
           clear ht
           unfold Ref5.oneV
           unfold Ref5.tripleV at HPut ⊢
           dsimp only at HPut ⊢
           go_wp2_with fail
           refine (HPut.out _ (bel_alloc (Below.refl _ _) _)).mono ?_
           rintro e w4 ⟨A4,c4,rfl,hM4,hb4⟩
           have HS4:Hid (RSt w w4 A4 c4 T):=Lib.hid ⟨HS3.out.valid,HS3.out.len,hM4,bel_step (bel_alloc HS3.out.bel _) hb4⟩
           clear hM4 hb4 HPut
           go_wp2
           go_roundg q.length
           case measure=>exact HQM.out
           case rel=>exact ⟨q,T,n + 1,A4,c4,rfl,Lib.hid rfl,rfl,by go_num,by omega,by omega,hT,HS4,HN⟩
          ·
           have hv2:Valid (T ++ [t]):=fun x hx=>(List.mem_append.1 hx).elim (HS3.out.valid x) (fun hx=>by simp at hx;subst hx;exact HIs.out)
           have hln2:(sortT (T ++ [t])).length = T.length + 1:=by
            rw [sortT_snoc,putT_new (sortT T) t (fun x hx he=>ht (by
             have h1:=(sortT_mem HS3.out.valid x).1 hx
             rw [← (cmpT_eq (HS3.out.valid x h1) HIs.out).1 he]
             exact h1)),HS3.out.len]
           rw [← sortT_snoc] at HPut
           have HV2:=Lib.hid hv2
           have HLn2:=Lib.hid hln2
           have HNot:=Lib.hid ht
           clear hv2 hln2 ht
           by_cases h100:100 < T.length + 1
           ·
            have HR:Hid (parse s = ([],n + 1,3)):=Lib.hid (by rw [← HG.out,pg_many r T n t hr0 h200 HLn.out HNot.out h100])
            have hd3:decide ((100:Int) < ((sortT (T ++ [t])).length:Int)) = true:=decide_eq_true (by have:=HLn2.out;omega)
            unfold Ref5.oneV
            unfold Ref5.tripleV at HPut ⊢
            dsimp only at HPut ⊢
            go_wp2_with fail
            refine (HPut.out _ (bel_alloc (Below.refl _ _) _)).mono ?_
            rintro e w4 ⟨A4,c4,rfl,hM4,hb4⟩
            have HB4:=Lib.hid (bel_step (bel_alloc HS3.out.bel _) hb4)
            clear hM4 hb4 HPut
            go_wp2
            go_ret3
            rw [HR.out]
            exact ⟨.inr ⟨by show (3:Int) ≠ 0;decide,rfl⟩,HB4.out⟩
           ·
            have HN:Hid (pg q (T ++ [t]) (n + 1) = parse s):=Lib.hid (by rw [← HG.out,pg_new r T n t hr0 h200 HLn.out HNot.out h100,HQ2.out])
            have hd3:decide ((100:Int) < ((sortT (T ++ [t])).length:Int)) = false:=decide_eq_false (by have:=HLn2.out;omega)
            unfold Ref5.oneV
            unfold Ref5.tripleV at HPut ⊢
            dsimp only at HPut ⊢
            go_wp2_with fail
            refine (HPut.out _ (bel_alloc (Below.refl _ _) _)).mono ?_
            rintro e w4 ⟨A4,c4,rfl,hM4,hb4⟩
            have HS4:Hid (RSt w w4 A4 c4 (T ++ [t])):=Lib.hid ⟨HV2.out,by rw [HLn2.out];simp,hM4,bel_step (bel_alloc HS3.out.bel _) hb4⟩
            clear hM4 hb4 HPut
            go_wp2
            go_roundg q.length
            case measure=>exact HQM.out
            case rel=>exact ⟨q,T ++ [t],n + 1,A4,c4,rfl,Lib.hid rfl,rfl,by go_num,by omega,by omega,by simp;omega,HS4,HN⟩
      ·
       have hp10:((p:Int) != 10) = true:=by
        rw [bne_iff_ne,hp]
        intro h
        exact h10 (UInt8.toNat_inj.1 (by simp;omega))
       have HN:=Lib.hid (noEnd_succ HI.out.1 hlt (fun e=>h10 (hx.trans e)))
       have HS:=Lib.hid HI.out.2
       clear h10 hx hp HI
       go_wp2
       go_roundw
       case rel=>exact ⟨k + 1,by go_num,by omega,Lib.hid ⟨HN.out,HS.out⟩⟩
       case measure=>simp [intOf];omega
     ·
      have hd:decide (k < r.length) = false:=decide_eq_false hlt
      have e1:decide ((k:Int) < (r.length:Int)) = false:=decide_eq_false (by omega)
      obtain rfl:k = r.length:=by omega
      obtain ⟨h1,h2⟩:=line_last HI.out.1
      have HS:=Lib.hid HI.out.2
      have HL:Hid (mkS r = mkS (lineS r)):=Lib.hid (by rw [h1])
      have HQ:Hid (ByteArray.empty = mkS (restS r)):=Lib.hid (by rw [h2];rfl)
      have hx1:(mkS r).extract 0 r.length = mkS r:=by rw [mkS_extract];congr 1;simp
      have hx2:(mkS r).extract r.length r.length = mkS []:=by rw [mkS_extract];congr 1;simp
      have hmin:min ((r.length:Int) + 1) (r.length:Int) = (r.length:Int):=by omega
      clear HI h1 h2
      go_upto_region 13 with fail
      obtain ⟨y,hy⟩:∃ y,y = lineS r:=⟨_,rfl⟩
      obtain ⟨q,hq⟩:∃ q,q = restS r:=⟨_,rfl⟩
      rw [← hy] at HL
      rw [← hq] at HQ
      rw [HL.out,HQ.out]
      have hyl:y.length ≤ 20000:=by have:=lineS_len r;rw [hy];omega
      have hql:q.length < r.length:=by rw [hq];exact cutL_rest r hr0
      have HOne:=Lib.hid (Ref5.one_calls y (by omega) wr (HE.out.below HS.out.bel))
      rw [LineEq.lineOf_one] at HOne
      have HQM:Hid (q.length < gk):=Lib.hid (by rw [← HK.out];exact hql)
      have HY:=Lib.hid hy
      have HQ2:=Lib.hid hq
      clear HL HQ hy hq
      by_cases h200:200 < n + 1
      ·
       have HR:Hid (parse s = ([],n + 1,3)):=Lib.hid (by rw [← HG.out,pg_full r T n hr0 h200])
       have hd2:decide ((200:Int) < (n:Int) + 1) = true:=decide_eq_true (by omega)
       go_wp2
       go_ret3
       rw [HR.out]
       exact ⟨.inr ⟨by show (3:Int) ≠ 0;decide,rfl⟩,HS.out.bel⟩
      have hd2:decide ((200:Int) < (n:Int) + 1) = false:=decide_eq_false (by omega)
      go_wp2_with fail
      refine HOne.out.mono ?_
      rintro e w3 ⟨⟨rfl,hfo⟩,hb⟩
      have HS3:Hid (RSt w w3 A c T):=Lib.hid ⟨HS.out.valid,HS.out.len,triK.sl.mono (fun _ _ _=>trivial) (Kd.M_below (Kd.M_bound HS.out.row) hb),bel_step HS.out.bel hb⟩
      have HFo:=Lib.hid hfo
      clear hb hfo HOne HS
      obtain ⟨ln,hln⟩:∃ ln,ln = lineOf false y:=⟨_,rfl⟩
      rw [← hln] at HFo
      rw [← hln]
      rw [HY.out] at hln
      have HLn:=Lib.hid hln.symm
      clear hln
      match ln with
      | none =>
       have HR:Hid (parse s = ([],n + 1,2)):=Lib.hid (by rw [← HG.out,pg_bad r T n hr0 h200 HLn.out])
       unfold Ref5.oneV Ref5.tripleV Ref5.zeroTr Tc.zeroT
       dsimp only
       go_wp2
       go_ret3
       rw [HR.out]
       exact ⟨.inr ⟨by show (2:Int) ≠ 0;decide,rfl⟩,bel_alloc HS3.out.bel _⟩
      | some none =>
       have HN:Hid (pg q T (n + 1) = parse s):=Lib.hid (by rw [← HG.out,pg_none r T n hr0 h200 HLn.out,HQ2.out])
       have hd3:decide ((100:Int) < ((sortT T).length:Int)) = false:=decide_eq_false (by have:=HS3.out.len;omega)
       unfold Ref5.oneV Ref5.tripleV Ref5.zeroTr Tc.zeroT
       dsimp only
       go_wp2
       go_roundg q.length
       case measure=>exact HQM.out
       case rel=>exact ⟨q,T,n + 1,A,c,rfl,Lib.hid rfl,rfl,by go_num,by omega,by omega,hT,Lib.hid (HS3.out.below (bel_alloc (Below.refl _ _) _)),HN⟩
      | some (some t) =>
       have HIs:=Lib.hid (lineOf_is HLn.out)
       have HPut:=Lib.hid (fun W (hW:Below w3.heap.size w3 W)=>SortW.put_calls (sortT T) t A c W (triK.sl.mono (fun k _ hk=>hk) (Kd.M_below (Kd.M_bound HS3.out.row) hW)) (fun x hx=>(Parse.valid_small (HS3.out.valid x ((sortT_mem HS3.out.valid x).1 hx))).1) (Parse.valid_small HIs.out).1 (Parse.valid_small HIs.out).2 (by have:=HS3.out.len;omega))
       by_cases ht:t ∈ T
       ·
        have HN:Hid (pg q T (n + 1) = parse s):=Lib.hid (by rw [← HG.out,pg_old r T n t hr0 h200 HLn.out ht,HQ2.out])
        rw [sortT_old HS3.out.valid ht] at HPut
        have hd3:decide ((100:Int) < ((sortT T).length:Int)) = false:=decide_eq_false (by have:=HS3.out.len;omega)
        clear ht
        unfold Ref5.oneV
        unfold Ref5.tripleV at HPut ⊢
        dsimp only at HPut ⊢
        go_wp2_with fail
        refine (HPut.out _ (bel_alloc (Below.refl _ _) _)).mono ?_
        rintro e w4 ⟨A4,c4,rfl,hM4,hb4⟩
        have HS4:Hid (RSt w w4 A4 c4 T):=Lib.hid ⟨HS3.out.valid,HS3.out.len,hM4,bel_step (bel_alloc HS3.out.bel _) hb4⟩
        clear hM4 hb4 HPut
        go_wp2
        go_roundg q.length
        case measure=>exact HQM.out
        case rel=>exact ⟨q,T,n + 1,A4,c4,rfl,Lib.hid rfl,rfl,by go_num,by omega,by omega,hT,HS4,HN⟩
       ·
        have hv2:Valid (T ++ [t]):=fun x hx=>(List.mem_append.1 hx).elim (HS3.out.valid x) (fun hx=>by simp at hx;subst hx;exact HIs.out)
        have hln2:(sortT (T ++ [t])).length = T.length + 1:=by
         rw [sortT_snoc,putT_new (sortT T) t (fun x hx he=>ht (by
          have h1:=(sortT_mem HS3.out.valid x).1 hx
          rw [← (cmpT_eq (HS3.out.valid x h1) HIs.out).1 he]
          exact h1)),HS3.out.len]
        rw [← sortT_snoc] at HPut
        have HV2:=Lib.hid hv2
        have HLn2:=Lib.hid hln2
        have HNot:=Lib.hid ht
        clear hv2 hln2 ht
        by_cases h100:100 < T.length + 1
        ·
         have HR:Hid (parse s = ([],n + 1,3)):=Lib.hid (by rw [← HG.out,pg_many r T n t hr0 h200 HLn.out HNot.out h100])
         have hd3:decide ((100:Int) < ((sortT (T ++ [t])).length:Int)) = true:=decide_eq_true (by have:=HLn2.out;omega)
         unfold Ref5.oneV
         unfold Ref5.tripleV at HPut ⊢
         dsimp only at HPut ⊢
         go_wp2_with fail
         refine (HPut.out _ (bel_alloc (Below.refl _ _) _)).mono ?_
         rintro e w4 ⟨A4,c4,rfl,hM4,hb4⟩
         have HB4:=Lib.hid (bel_step (bel_alloc HS3.out.bel _) hb4)
         clear hM4 hb4 HPut
         go_wp2
         go_ret3
         rw [HR.out]
         exact ⟨.inr ⟨by show (3:Int) ≠ 0;decide,rfl⟩,HB4.out⟩
        ·
         have HN:Hid (pg q (T ++ [t]) (n + 1) = parse s):=Lib.hid (by rw [← HG.out,pg_new r T n t hr0 h200 HLn.out HNot.out h100,HQ2.out])
         have hd3:decide ((100:Int) < ((sortT (T ++ [t])).length:Int)) = false:=decide_eq_false (by have:=HLn2.out;omega)
         unfold Ref5.oneV
         unfold Ref5.tripleV at HPut ⊢
         dsimp only at HPut ⊢
         go_wp2_with fail
         refine (HPut.out _ (bel_alloc (Below.refl _ _) _)).mono ?_
         rintro e w4 ⟨A4,c4,rfl,hM4,hb4⟩
         have HS4:Hid (RSt w w4 A4 c4 (T ++ [t])):=Lib.hid ⟨HV2.out,by rw [HLn2.out];simp,hM4,bel_step (bel_alloc HS3.out.bel _) hb4⟩
         clear hM4 hb4 HPut
         go_wp2
         go_roundg q.length
         case measure=>exact HQM.out
         case rel=>exact ⟨q,T ++ [t],n + 1,A4,c4,rfl,Lib.hid rfl,rfl,by go_num,by omega,by omega,by simp;omega,HS4,HN⟩
end Go.Proofs.YtnplommdgfgboaaGreatDoor.ParseR
namespace Go.Proofs.YtnplommdgfgboaaGreatDoor.RefLoad
open Go.RowKit Go.Lib B Rd TermPure LinesPure Tri SortP OrdG Cmp Env ParseP Parse ParseOk ParseR RefOf
set_option maxHeartbeats 3200000 in
set_option maxRecDepth 100000 in
theorem refload_good (s:List UInt8) (hs:s.length ≤ 140737488355328) (w:World) (he:Env w) (h0:(parse s).2.2 = 0) :
  Calls Tryz.prog 31 #[.string (mkS s)] w fun e w'=>(∃ g,e = .returned (.tuple #[.pointer (some ⟨g,0,none⟩),.int .i64 (parse s).2.1,.int .i64 0])∧RefAt w' (fun _=>True) g (parse s).1)∧Below w.heap.size w w':=by
 obtain ⟨hv,hr,hl⟩:=parse_good h0
 have HP:=Lib.hid (refparse_calls s hs w he)
 have HMd:=Lib.hid (fun A c w1 HL=>of_calls (parse s).1 hv hl A c w1 HL)
 generalize parse s = r at *
 obtain ⟨T,n,er⟩:=r
 dsimp only at h0 HMd
 subst h0
 clear he hv hr hl
 go_enter Tryz.func31,Tryz.ntmps31
 go_wp2_with fail
 refine HP.out.mono ?_
 rintro e w2 ⟨h1 | h1,hb⟩
 ·
  obtain ⟨_,A,c,rfl,hM⟩:=h1
  have HB:=Lib.hid hb
  have HC:=Lib.hid (HMd.out A c w2 (Kd.M_bound hM))
  clear hM hb HP HMd
  dsimp only
  go_wp2_with fail
  refine HC.out.mono ?_
  rintro e w3 ⟨⟨g,rfl,hR⟩,hb⟩
  have HR:=Lib.hid hR
  have HB3:=Lib.hid (bel_step HB.out hb)
  clear hR hb HC
  go_wp2
  go_ret3
  exact ⟨⟨g,rfl,HR.out⟩,HB3.out⟩
 ·
  exact absurd rfl h1.1
set_option maxHeartbeats 3200000 in
set_option maxRecDepth 100000 in
theorem refload_bad (s:List UInt8) (hs:s.length ≤ 140737488355328) (w:World) (he:Env w) (h0:(parse s).2.2 ≠ 0) :
  Calls Tryz.prog 31 #[.string (mkS s)] w fun e w'=>e = .returned (.tuple #[.pointer none,.int .i64 (parse s).2.1,.int .i64 (parse s).2.2])∧Below w.heap.size w w':=by
 have HP:=Lib.hid (refparse_calls s hs w he)
 generalize parse s = r at *
 obtain ⟨T,n,er⟩:=r
 dsimp only at h0
 have hne:(er != 0) = true:=by simp [h0]
 clear he
 go_enter Tryz.func31,Tryz.ntmps31
 go_wp2_with fail
 refine HP.out.mono ?_
 rintro e w2 ⟨h1 | h1,hb⟩
 ·
  exact absurd h1.1 h0
 ·
  obtain ⟨_,rfl⟩:=h1
  have HB:=Lib.hid hb
  clear hb HP
  dsimp only
  go_wp2
  go_ret3
  exact ⟨rfl,HB.out⟩
end Go.Proofs.YtnplommdgfgboaaGreatDoor.RefLoad
namespace Go.Proofs.YtnplommdgfgboaaGreatDoor.SLoads
open Go.RowKit Go.Lib B Rd TermPure LinesPure Tri SortP OrdG Cmp StoreW StoreM Env ParseP Parse ParseOk RefOf RefLoad Go.Proofs.YtnplommdgfgboaaGreatDoor.Alike
theorem pgo_code:∀ (f:Nat) (s:List UInt8) (T:List Triple) (n:Nat),(pgo f s T n).2.2 = 0 ∨ (pgo f s T n).2.2 = 2 ∨ (pgo f s T n).2.2 = 3
 | 0,s,T,n=>.inl rfl
 | f + 1,s,T,n=>by
  rw [pgo]
  by_cases hs:s = []
  ·
   rw [if_pos hs];exact .inl rfl
  rw [if_neg hs]
  by_cases hn:200 < n + 1
  ·
   rw [if_pos hn];exact .inr (.inr rfl)
  rw [if_neg hn]
  cases lineOf false (lineS s) with
  | none=>exact .inr (.inl rfl)
  | some o =>
   cases o with
   | none=>exact pgo_code f _ _ _
   | some t =>
    dsimp only
    by_cases ht:t ∈ T
    ·
     rw [if_pos ht];exact pgo_code f _ _ _
    rw [if_neg ht]
    by_cases hm:100 < T.length + 1
    ·
     rw [if_pos hm];exact .inr (.inr rfl)
    rw [if_neg hm]
    exact pgo_code f _ _ _
theorem parse_code (s:List UInt8):0 ≤ (parse s).2.2∧(parse s).2.2 ≤ 4:=by
 unfold parse
 by_cases h:20000 < s.length
 ·
  rw [if_pos h]
  constructor <;> decide
 ·
  rw [if_neg h]
  rcases pgo_code s.length s [] 0 with e | e | e
  all_goals (
   have e2:(pg s [] 0).2.2 = _:=e
   rw [e2]
   constructor <;> decide)
set_option maxHeartbeats 6400000 in
set_option maxRecDepth 100000 in
theorem walk (w:World) (he:Env w) (s:ByteArray) (hs:s.size ≤ maxLen):Calls Tryz.prog 7 #[.string s] w fun e w'=>e = .returned (.bool true)∧Below w.heap.size w w':=by
 obtain ⟨l,rfl⟩:∃ l,s = mkS l:=⟨_,eq_mkS s⟩
 have zl:=mkS_size l
 clear hs
 by_cases hbig:25000 < l.length
 ·
  have hd:decide ((25000:Int) < (l.length:Int)) = true:=decide_eq_true (by omega)
  go_enter Tryz.func7,Tryz.ntmps7
  go_wp2
  go_ret
  exact ⟨rfl,Below.refl _ _⟩
 have hd:decide ((25000:Int) < (l.length:Int)) = false:=decide_eq_false (by omega)
 have HE:=Lib.hid he
 by_cases h0:(parse l).2.2 = 0
 ·
  have HL1:=Lib.hid (load_good l (by omega) w he h0)
  have HL2:=Lib.hid (fun W (hW:Below w.heap.size w W)=>refload_good l (by omega) W (HE.out.below hW) h0)
  have HG:=Lib.hid (parse_good h0)
  generalize parse l = r at *
  obtain ⟨T,n,er⟩:=r
  dsimp only at h0
  subst h0
  dsimp only at *
  clear he
  go_enter Tryz.func7,Tryz.ntmps7
  go_wp2_with fail
  refine HL1.out.mono ?_
  rintro e w1 ⟨⟨ga,rfl,hS⟩,hb⟩
  have HB1:=Lib.hid hb
  have HS1:Hid (StoreAt w1 (fun _=>True) ga T):=Lib.hid (hS.mono (fun _ _ _=>trivial))
  have HLd:=Lib.hid (HL2.out w1 hb)
  clear hS hb HL1 HL2 hbig
  dsimp only
  go_wp2_with fail
  refine HLd.out.mono ?_
  rintro e w2 ⟨⟨gb,rfl,hR⟩,hb⟩
  have HB2:=Lib.hid (bel_step HB1.out hb)
  have HA:=Lib.hid (alike_calls T HG.out.1 HG.out.2.2 ga gb w2 (HS1.out.below hb) hR)
  clear hR hb HLd HS1
  dsimp only
  go_wp2_with fail
  refine HA.out.mono ?_
  rintro e w3 ⟨rfl,hb⟩
  have HB3:=Lib.hid (bel_step HB2.out hb)
  have HK:=Lib.hid (Known11.known_calls w3 (HE.out.below HB3.out))
  clear hb HA
  go_wp2_with fail
  refine HK.out.mono ?_
  rintro e w4 ⟨rfl,hb⟩
  have HB4:=Lib.hid (bel_step HB3.out hb)
  clear hb HK
  go_wp2
  go_ret
  exact ⟨rfl,HB4.out⟩
 ·
  have HL1:=Lib.hid (load_bad l (by omega) w he h0)
  have HL2:=Lib.hid (fun W (hW:Below w.heap.size w W)=>refload_bad l (by omega) W (HE.out.below hW) h0)
  have hcode:=parse_code l
  generalize parse l = r at *
  obtain ⟨T,n,er⟩:=r
  dsimp only at *
  have hne:(er != 0) = true:=by simp [h0]
  have heq:(er == 0) = false:=by simp [h0]
  have hw:IntKind.i64.wrap er = er:=by rw [IntKind.wrap_i64];omega
  clear he
  go_enter Tryz.func7,Tryz.ntmps7
  go_wp2_with fail
  refine HL1.out.mono ?_
  rintro e w1 ⟨rfl,hb⟩
  have HB1:=Lib.hid hb
  have HLd:=Lib.hid (HL2.out w1 hb)
  clear hb HL1 HL2 hbig
  dsimp only
  go_wp2_with fail
  refine HLd.out.mono ?_
  rintro e w2 ⟨rfl,hb⟩
  have HB2:=Lib.hid (bel_step HB1.out hb)
  have HK:=Lib.hid (Known11.known_calls w2 (HE.out.below HB2.out))
  clear hb HLd
  dsimp only
  go_wp2_with fail
  refine HK.out.mono ?_
  rintro e w3 ⟨rfl,hb⟩
  have HB3:=Lib.hid (bel_step HB2.out hb)
  clear hb HK
  go_wp2
  go_ret
  exact ⟨rfl,HB3.out⟩
end Go.Proofs.YtnplommdgfgboaaGreatDoor.SLoads
