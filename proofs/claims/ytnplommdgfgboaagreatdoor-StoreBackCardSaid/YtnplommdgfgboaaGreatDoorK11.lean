/-
  Texts of the claim, one behind the other: DecW, SBack.
-/
import Derived.Test.YtnplommdgfgboaaGreatDoorK10
set_option linter.unusedVariables false
set_option linter.unusedSimpArgs false
set_option maxHeartbeats 25600000
set_option maxRecDepth 100000
namespace Go.Proofs.YtnplommdgfgboaaGreatDoor
namespace DecW
open Go.RowKit Go.Lib B Rd TermPure LinesPure Tri SortP OrdG Env StoreP StoreW FrontP FrontW PackP BoxPure BoxWalk BoxPack
def DPost (b:List UInt8) (w:World) (e:Ending) (w':World):Prop:=
 (∃ r,DecR b r∧match r with
  | none=>e = .returned (.tuple #[.pointer none,.int .i64 2])
  | some T=>∃ g,e = .returned (.tuple #[.pointer (some ⟨g,0,none⟩),.int .i64 0])∧StoreAt w' (fun _=>True) g T)∧Below w.heap.size w w'
theorem dec_calls (b:List UInt8) (hb:b.length ≤ 80000) (A:Option Addr) (c:Nat) (w:World) (he:Env w) (HL:byteK.sl.M w (fun _=>True) b [.slice A b.length c]) :
  Calls Tryz.prog 35 #[.slice A b.length c] w (DPost b w):=by
 have HM:=Zz (Kd.M_bound HL)
 have HU:=Zz (BoxUnpack.unpack_calls b _ w HL)
 have HE:=Zz he
 clear HL he
 go_enter Tryz.func35,Tryz.ntmps35
 go_wp2_with fail
 refine HU.o.mono ?_
 rintro e w1 ⟨hb1,r,hr,hm⟩
 have HB1:=Zz hb1
 clear HU hb1
 cases r with
 | none =>
  dsimp only at hm
  subst hm
  have HF:=Zz (dec_none_box hr)
  clear hr
  dsimp only
  go_wp2
  go_ret2
  exact ⟨⟨none,HF.o,rfl⟩,HB1.o⟩
 | some l =>
  obtain ⟨v,rfl,ho⟩:=hm
  have HRd:=Zz hr
  have hm4:=Kd.own_sl (ok':=fun _=>True) ho (fun _ _=>trivial) (fun _ _=>trivial)
  obtain ⟨A4,c4,rfl,_,_⟩:=Kd.own_slice ho
  have HM4:=Zz hm4
  clear hr ho hm4
  dsimp only
  by_cases h2:l.length = 2
  case neg =>
   have hne:((l.length:Int) != 2) = true:=by simp;omega
   have HF:=Zz (dec_none_len HRd.o h2)
   clear h2
   go_wp2
   go_ret2
   exact ⟨⟨none,HF.o,rfl⟩,HB1.o⟩
  obtain ⟨s1,s2,rfl⟩:∃ s1 s2,l = [s1,s2]:=by
   match l,h2 with
   | [a,b'],_=>exact ⟨a,b',rfl⟩
  obtain ⟨b4,o4,rfl,hb4,hsec⟩:=SecTwo.sec_at HM4.o (by simp)
  obtain ⟨A1,c1,k1,hM1⟩:=hsec 0 (by simp)
  obtain ⟨A2,c2,k2,hM2⟩:=hsec 1 (by simp)
  simp only [List.getElem_cons_zero,List.getElem_cons_succ,Nat.zero_mul,Nat.add_zero,Nat.one_mul] at k1 k2 hM1 hM2
  simp only [List.length_cons,List.length_nil,Nat.zero_add,Nat.reduceAdd] at *
  have hMay:=(HRd.o [s1,s2]).1 rfl
  have HK:=Zz (fun W (hW:Below w1.heap.size w1 W)=>(⟨(hW.cell (p:=⟨b4,o4 + 1,none⟩) hb4).trans k1,(hW.cell (p:=⟨b4,o4 + 2 + 1,none⟩) hb4).trans k2⟩:W.cell? ⟨b4,o4 + 1,none⟩ = some (.slice A1 s1.2.length c1)∧W.cell? ⟨b4,o4 + 2 + 1,none⟩ = some (.slice A2 s2.2.length c2)))
  have HMa:=Zz hM1
  have HMb:=Zz hM2
  clear hM1 hM2 hsec h2
  by_cases hsh:s2.2.length < 2
  ·
   have d2:decide ((s2.2.length:Int) < 2) = true:=dT (by omega)
   have HF:=Zz (dec_none_short HRd.o hsh)
   go_wp2
   go_ret2
   exact ⟨⟨none,HF.o,rfl⟩,HB1.o⟩
  have d2:decide ((s2.2.length:Int) < 2) = false:=dF (by omega)
  have hs1l:s1.2.length ≤ 100000:=by
   have h:=hMay.1.2.2
   simp only [total,List.length_cons,List.length_nil] at h
   omega
  have hs2l:s2.2.length ≤ 100000:=by
   have h:=hMay.1.2.2
   simp only [total,List.length_cons,List.length_nil] at h
   omega
  have HR6:=Zz (FrontW.read_calls s1.2 hs1l A1 c1 w1 HMa.o)
  obtain ⟨A2',c2',hv2,g1,g2,g3,gr⟩:=id HMb.o
  obtain ⟨rfl,rfl⟩:A2 = A2'∧c2 = c2':=by simpa using hv2
  obtain ⟨bx,ox,rfl,hcell⟩:=u8_plain gr (by omega)
  have hbx:bx < w1.heap.size:=cell_lt (hcell 0 (by omega))
  obtain ⟨p0,hp0⟩:∃ p0,p0 = s2.2[0].toNat:=⟨_,rfl⟩
  obtain ⟨p1,hp1⟩:∃ p1,p1 = s2.2[1].toNat:=⟨_,rfl⟩
  have l0:p0 < 256:=by rw [hp0];exact s2.2[0].toNat_lt
  have l1:p1 < 256:=by rw [hp1];exact s2.2[1].toNat_lt
  obtain ⟨cnt,hcnt⟩:∃ cnt,cnt = cntB s2.2:=⟨_,rfl⟩
  have hcn:p0 * 256 + p1 = cnt:=by
   rw [hcnt,hp0,hp1]
   unfold cntB
   rw [List.getD_eq_getElem?_getD,List.getD_eq_getElem?_getD,List.getElem?_eq_getElem (by omega),List.getElem?_eq_getElem (by omega)]
   try rfl
  have hkk:∀ n:Int,0 ≤ n → n < 2 ^ 63 → IntKind.i64.wrap n = n:=fun n h0 h1=>by rw [IntKind.wrap_i64];omega
  have hor:IntKind.i64.wrap ((p0:Int) * 256 + (p1:Int)) = (cnt:Int):=by rw [IntKind.wrap_i64];omega
  have hw0:IntKind.i64.wrap ((p0:Int) * 256) = (p0:Int) * 256:=by rw [IntKind.wrap_i64];omega
  have HY:=Zz (fun W (hW:Below w1.heap.size w1 W)=>(⟨(hW.cell (p:=⟨bx,ox + 0,none⟩) hbx).trans (hcell 0 (by omega)),(hW.cell (p:=⟨bx,ox + 1,none⟩) hbx).trans (hcell 1 (by omega))⟩:W.cell? ⟨bx,ox + 0,none⟩ = some (.int .u8 (s2.2[0].toNat:Int))∧W.cell? ⟨bx,ox + 1,none⟩ = some (.int .u8 (s2.2[1].toNat:Int))))
  rw [← hp0,← hp1] at HY
  have HCn:=Zz hcnt
  have y0:(0:Int) < (s2.2.length:Int):=by omega
  have y1:(1:Int) < (s2.2.length:Int):=by omega
  have hcb:cnt ≤ 65535:=by omega
  clear hcn hp0 hp1 hcnt hcell gr hMay hkk hsh hv2
  go_wp2_with fail
  refine HR6.o.mono ?_
  rintro e w2 ⟨⟨r6,hf,hm6⟩,hb2⟩
  have HB2:=Zz (bel_step HB1.o hb2)
  have HB12:=Zz hb2
  obtain ⟨z1,z2⟩:=HY.o w2 hb2
  obtain ⟨q1,q2⟩:=HK.o w2 hb2
  rw [Nat.add_zero] at z1
  clear HR6 hb2 k1 k2
  cases r6 with
  | none =>
   dsimp only at hm6
   subst hm6
   have HF:=Zz (dec_none_front HRd.o hf)
   have HBd:=Zz (fun q=>bel_drewN HB2.o q)
   clear hf
   dsimp only
   go_upto_region 6 with fail
   go_quiet (fail)
   go_wp2
   go_ret2
   exact ⟨⟨none,HF.o,rfl⟩,HBd.o _⟩
  | some L =>
   obtain ⟨g6,rfl,hL6⟩:=hm6
   have HFr:=Zz hf
   have HL6:=Zz hL6
   clear hf hL6
   dsimp only
   go_upto_region 6 with fail
   go_quiet (fail)
   have HBq:=Zz (bel_drewN HB2.o nq)
   have HBq1:=Zz (bel_drewN HB12.o nq)
   have HLq:Hid (DictAt (w2.drewN nq) (fun _=>True) g6 L):=Zz (by
    obtain ⟨A',c',h1,h2⟩:=HL6.o
    have hbq:=bel_drewN (bR w2.heap.size w2) nq
    exact ⟨A',c',(hbq.cell (p:=⟨g6,0,none⟩) (cell_lt h1)).trans h1,strK.sl.mono (ok':=fun _=>True) (fun _ _ _=>trivial) (Kd.M_below (Kd.M_bound h2) hbq)⟩)
   clear q1 q2 z1 z2 HB2 HB12 HL6
   generalize w2.drewN nq = w3 at *
   by_cases h100:100 < cnt
   ·
    have d1:decide ((cnt:Int) > 100) = true:=dT (by omega)
    have d1':decide ((100:Int) < (cnt:Int)) = true:=dT (by omega)
    have HF:=Zz (dec_none_cnt HRd.o (by rw [← HCn.o];exact h100))
    go_wp2
    go_ret2
    exact ⟨⟨none,HF.o,rfl⟩,HBq.o⟩
   have d1:decide ((cnt:Int) > 100) = false:=dF (by omega)
   have d1':decide ((100:Int) < (cnt:Int)) = false:=dF (by omega)
   have hcx:cnt ≤ 100:=by omega
   have HMF:=Zz (((HFr.o L).1 rfl).1)
   have hLl:L.length ≤ 300:=HMF.o.1
   have HDl:=Zz (FrontW.dlen_calls L g6 w3.drew _ (by
    obtain ⟨A',c',h1,h2⟩:=HLq.o
    have hbq:=bel_drew (bR w3.heap.size w3)
    exact (⟨A',c',(hbq.cell (p:=⟨g6,0,none⟩) (cell_lt h1)).trans h1,strK.sl.mono (ok':=fun _=>True) (fun _ _ _=>trivial) (Kd.M_below (Kd.M_bound h2) hbq)⟩:DictAt w3.drew (fun _=>True) g6 L)))
   obtain ⟨wd,hwd⟩:∃ wd,wd = Lib.bitLen L.length:=⟨_,rfl⟩
   have hwd9:wd ≤ 9:=by rw [hwd];exact Lib.bitLen_le _ 9 (by decide) (by omega)
   have HWd:=Zz (fun W=>PackW.width_calls L.length (by omega) W)
   rw [← hwd] at HWd
   obtain ⟨n3,hn3⟩:∃ n3,n3 = 3 * cnt:=⟨_,rfl⟩
   have hmul3:(cnt:Int) * (3:Int) = (n3:Int):=by omega
   have hwn3:IntKind.i64.wrap (n3:Int) = (n3:Int):=by rw [IntKind.wrap_i64];omega
   have hn3b:n3 ≤ 300:=by omega
   have hdl:(s2.2.drop 2).length = s2.2.length - 2:=by simp
   obtain ⟨A22,-,hcu2,-,hrow2⟩:=Kd.cut_run (P:=Tryz.prog) byteK 55 5 Tryz.underlying55 BoxUnpack.cellsB (.int .u8 0) 1 PackW.info_u8 (some ⟨bx,ox,none⟩) s2.2.length c2 2 s2.2.length (by omega) (lR _) g1 g2 (fun h=>by cases h)
   have hs22:∀ (kl:IntKind) (w:World),(Instr.slice 55 (.slice (some ⟨bx,ox,none⟩) s2.2.length c2) (some (.int kl 2)) none none).run Tryz.prog w = .ok (.slice A22 (s2.2.length - 2) (c2 - 2)) w:=fun kl w=>hcu2 kl w rfl
   have hcut:byteK.sl.M w1 (fun _=>True) (s2.2.drop 2) [.slice A22 (s2.2.drop 2).length (c2 - 2)]:=by
    obtain ⟨_,_,hv,_,_,_,hr⟩:=id HMb.o
    simp at hv
    obtain ⟨rfl,rfl⟩:=hv
    have h:=hrow2 w1 _ s2.2 rfl hr
    rw [List.take_length] at h
    rw [hdl]
    exact h
   clear hcu2 hrow2
   have HUn:=Zz (fun W (hW:Below w1.heap.size w1 W)=>PackW.unpack_calls (s2.2.drop 2) n3 wd (by omega) (by omega) A22 (c2 - 2) W (byteK.sl.mono (fun _ _ _=>trivial) (Kd.M_below (Kd.M_bound hcut) hW)))
   rw [hdl] at HUn
   have HUx:Hid (∀ W,Below w1.heap.size w1 W → Calls Tryz.prog 68 #[.slice A22 (s2.2.length - 2) (c2 - 2),.int .i64 n3,.int .i64 wd] W fun e w'=>(∃ A' n' c' g,e = .returned (.tuple #[.slice A' n' c',.int .i64 g])∧((g = 2∧ReadsN (s2.2.drop 2) n3 wd none) ∨ (g = 0∧∃ l,ReadsN (s2.2.drop 2) n3 wd (some l)∧n' = l.length∧intK.sl.M w' (fun _=>True) (natZ l) [.slice A' l.length c'])))∧Below W.heap.size W w'):=Zz (fun W hW=>(HUn.o W hW).mono (by
    rintro e w' ⟨⟨r,hr,hm⟩,hb⟩
    cases r with
    | none=>exact ⟨⟨none,0,0,2,hm,.inl ⟨rfl,hr⟩⟩,hb⟩
    | some l =>
     obtain ⟨A',c',he,hM⟩:=hm
     exact ⟨⟨A',l.length,c',0,he,.inr ⟨rfl,l,hr,rfl,hM⟩⟩,hb⟩))
   clear HUn
   have HWe:=Zz hwd
   have HN3:=Zz hn3
   clear hwd hn3 hdl hcut
   have hcur:Below w1.heap.size w1 w3.drew:=bel_drew HBq1.o
   have hS:True:=trivial
   go_upto_region 9 with fail
   refine HeldZ.region (fun W=>True) 12 13 #[false,false,false,false,false,false,false,false,false,false,false,false,false] (by kernel_rfl) rfl rfl ?_
   intro hinv
   refine HeldZ.tk 0 hinv hS ?_
   clear hinv
   intro hinv
   try simp only [List.getElem_toArray,List.getElem_cons_zero,List.getElem_cons_succ,Act.put,HeldZ.sm] at hinv ⊢
   refine HeldZ.tk 1 hinv hS ?_
   clear hinv
   intro hinv
   try simp only [List.getElem_toArray,List.getElem_cons_zero,List.getElem_cons_succ,Act.put,HeldZ.sm] at hinv ⊢
   refine HeldZ.tk 2 hinv hS ?_
   clear hinv
   intro hinv
   try simp only [List.getElem_toArray,List.getElem_cons_zero,List.getElem_cons_succ,Act.put,HeldZ.sm] at hinv ⊢
   refine HeldZ.tk 3 hinv hS ?_
   clear hinv
   intro hinv
   try simp only [List.getElem_toArray,List.getElem_cons_zero,List.getElem_cons_succ,Act.put,HeldZ.sm] at hinv ⊢
   refine HeldZ.tk 4 hinv hS ?_
   clear hinv
   intro hinv
   try simp only [List.getElem_toArray,List.getElem_cons_zero,List.getElem_cons_succ,Act.put,HeldZ.sm] at hinv ⊢
   refine HeldZ.ow 5 hinv ?_
   clear hinv
   intro hinv K hK
   go_simp
   refine HDl.o.mono ?_
   rintro e w4 ⟨rfl,rfl⟩
   refine hK _ _ (fun _=>hS) ?_
   clear hK K
   try simp only [List.getElem_toArray,List.getElem_cons_zero,List.getElem_cons_succ,Act.put,HeldZ.sm] at hinv ⊢
   refine HeldZ.ow 6 hinv ?_
   clear hinv
   intro hinv K hK
   go_simp
   refine (HWd.o _).mono ?_
   rintro e w5 ⟨rfl,rfl⟩
   refine hK _ _ (fun _=>hS) ?_
   clear hK K
   try simp only [List.getElem_toArray,List.getElem_cons_zero,List.getElem_cons_succ,Act.put,HeldZ.sm] at hinv ⊢
   refine HeldZ.ow 7 hinv ?_
   clear hinv
   intro hinv K hK
   go_simp
   refine (HUx.o _ hcur).mono ?_
   rintro e w6 ⟨⟨A11,n11,c11,g11,rfl,hcase⟩,hb6⟩
   have HBd6:=Zz hb6
   have hcur:Below w1.heap.size w1 w6:=bel_step (by assumption) hb6
   have HCa:=Zz hcase
   clear hcase hb6
   refine hK _ _ (fun _=>hS) ?_
   clear hK K
   try simp only [List.getElem_toArray,List.getElem_cons_zero,List.getElem_cons_succ,Act.put,HeldZ.sm] at hinv ⊢
   refine HeldZ.tk 8 hinv hS ?_
   clear hinv
   intro hinv
   try simp only [List.getElem_toArray,List.getElem_cons_zero,List.getElem_cons_succ,Act.put,HeldZ.sm] at hinv ⊢
   refine HeldZ.tk 9 hinv hS ?_
   clear hinv
   intro hinv
   try simp only [List.getElem_toArray,List.getElem_cons_zero,List.getElem_cons_succ,Act.put,HeldZ.sm] at hinv ⊢
   refine HeldZ.tk 10 hinv hS ?_
   clear hinv
   intro hinv
   try simp only [List.getElem_toArray,List.getElem_cons_zero,List.getElem_cons_succ,Act.put,HeldZ.sm] at hinv ⊢
   refine HeldZ.tk 11 hinv hS ?_
   clear hinv
   intro hinv
   try simp only [List.getElem_toArray,List.getElem_cons_zero,List.getElem_cons_succ,Act.put,HeldZ.sm] at hinv ⊢
   refine HeldZ.oneW 12 hinv (by kernel_rfl) rfl (by rfl) ?_
   clear hinv
   intro _ K hK
   go_simp
   refine hK _ _ (fun h=>absurd rfl h) ?_
   refine HeldZ.done (by kernel_rfl) ?_ _
   clear hK K hS
   have HB6:=Zz (bel_step HB1.o hcur)
   have HBw:=Zz (bel_step (bel_drew (bR w3.heap.size w3)) HBd6.o)
   have HD6:Hid (DictAt w6 (fun _=>True) g6 L):=Zz (by
    obtain ⟨A',c',h1,h2⟩:=HLq.o
    exact ⟨A',c',(HBw.o.cell (p:=⟨g6,0,none⟩) (cell_lt h1)).trans h1,strK.sl.mono (ok':=fun _=>True) (fun _ _ _=>trivial) (Kd.M_below (Kd.M_bound h2) HBw.o)⟩)
   clear hcur
   rcases HCa.o with ⟨rfl,hn⟩ | ⟨rfl,l,hn,rfl,hMl⟩
   ·
    have HF:=Zz (dec_none_nums HRd.o HFr.o (by rw [← HCn.o,← HN3.o,← HWe.o];exact hn))
    clear hn
    go_wp2
    go_ret2
    exact ⟨⟨none,HF.o,rfl⟩,HB6.o⟩
   obtain ⟨I,rfl,hIl⟩:∃ I,l = nums I∧I.length = cnt:=⟨threes l,(nums_threes cnt l (by rw [((hn l).1 rfl).1,HN3.o])).1.symm,(nums_threes cnt l (by rw [((hn l).1 rfl).1,HN3.o])).2⟩
   have hI100:I.length ≤ 100:=by omega
   have HNu:Hid (ReadsN (s2.2.drop 2) (3 * cntB s2.2) (Lib.bitLen L.length) (some (nums I))):=Zz (by rw [← HCn.o,← HN3.o,← HWe.o];exact hn)
   have HIn:Hid (∀ x ∈ nums I,x ≤ 1000000):=Zz (fun x hx=>by
    have h:=((hn (nums I)).1 rfl).2.1 x hx
    have h2:2 ^ wd ≤ 2 ^ 9:=Nat.pow_le_pow_right (by decide) hwd9
    omega)
   have HTr:=Zz (TripW.trip_calls L I hI100 hLl (fun x hx=>by have:=HMF.o.2.1 x hx;omega) HIn.o g6 A11 c11 w6 (HE.o.below HB6.o) HD6.o hMl)
   have HIl:=Zz hIl
   clear hn hMl HCa hIl
   go_wp2_with fail
   refine HTr.o.mono ?_
   rintro e w7 ⟨hcase,hb7⟩
   have HB7:=Zz (bel_step HB6.o hb7)
   clear hb7 HTr
   rcases hcase with ⟨v10,hno,rfl⟩ | ⟨T,A13,c13,hMk,hV,rfl,hMT⟩
   ·
    have HF:=Zz (dec_none_makes HRd.o HFr.o HNu.o hno)
    clear hno
    dsimp only
    go_wp2
    go_ret2
    exact ⟨⟨none,HF.o,rfl⟩,HB7.o⟩
   have hT100:T.length ≤ 100:=by have h:=hMk.1;omega
   have HV:=Zz hV
   have HMk:Hid (Makes L I T):=Zz hMk
   have HSo:=Zz (SortW.sort_calls T A13 c13 w7 (Kd.M_bound hMT) (fun x hx=>(Parse.valid_small (hV x hx)).1) hV (by omega))
   clear hMk hV hMT
   dsimp only
   go_wp2_with fail
   refine HSo.o.mono ?_
   rintro e w8 ⟨A14,c14,rfl,hM8,hb8⟩
   have HB8:=Zz (bel_step HB7.o hb8)
   have HVs:Hid (Valid (sortT T)):=Zz (ParseOk.sortT_valid HV.o)
   have hSl:(sortT T).length ≤ 100:=Nat.le_trans (ParseOk.sortT_len T) hT100
   have HMd:=Zz (Made.made_calls (sortT T) HVs.o (sortT_rise HV.o) hSl A14 c14 w8 _ hM8)
   clear hM8 hb8 HSo
   go_wp2_with fail
   refine HMd.o.mono ?_
   rintro e w9 ⟨⟨gR,rfl,hSA⟩,hb9⟩
   have HB9:=Zz (bel_step HB8.o hb9)
   have HSA:Hid (StoreAt w9 (fun _=>True) gR (sortT T)):=Zz (hSA.mono (fun _ _ _=>trivial))
   have HEn:=Zz (Encode.encode_calls (sortT T) HVs.o hSl gR w9 _ HSA.o)
   obtain ⟨X,hX⟩:∃ X,X = encT (sortT T):=⟨_,rfl⟩
   have HX:=Zz hX
   rw [← hX] at HEn
   clear hSA hb9 HMd hX
   go_wp2_with fail
   refine HEn.o.mono ?_
   rintro e w10 ⟨⟨va,rfl,hoa⟩,hb10⟩
   have HMa2:=Kd.own_sl (ok':=fun _=>True) hoa (fun _ _=>trivial) (fun _ _=>trivial)
   obtain ⟨Aa,ca,rfl,_,_⟩:=Kd.own_slice hoa
   have HB10:=Zz (bel_step HB9.o hb10)
   have HSA2:=Zz (HSA.o.below hb10)
   have HEq:=Zz (BytesEq.equal_calls X b Aa A ca c (fun _=>True) w10 HMa2 (byteK.sl.mono (ok':=fun _=>True) (fun _ _ _=>trivial) (Kd.M_below HM.o HB10.o)))
   clear hoa hb10 HMa2 HEn
   by_cases hxb:X = b
   ·
    have HF:=Zz (dec_some (b:=b) HV.o hT100 (by rw [← HX.o];exact hxb))
    rw [dT hxb] at HEq
    clear hxb
    go_wp2_with fail
    refine HEq.o.mono ?_
    rintro e w11 ⟨rfl,rfl⟩
    go_wp2
    go_ret2
    exact ⟨⟨some (sortT T),HF.o,gR,rfl,HSA2.o⟩,HB10.o⟩
   ·
    have HF:=Zz (dec_none_eq HRd.o HFr.o HNu.o HMk.o (by rw [← HX.o];exact hxb))
    rw [dF hxb] at HEq
    clear hxb
    go_wp2_with fail
    refine HEq.o.mono ?_
    rintro e w11 ⟨rfl,rfl⟩
    go_wp2
    go_ret2
    exact ⟨⟨none,HF.o,rfl⟩,HB10.o⟩
end DecW
namespace SBack
open Go.RowKit Go.Lib B Rd TermPure LinesPure Tri SortP OrdG Print Cmp Long Long11 StoreW StoreM Env ParseP Parse ParseOk SPrint StoreP Encode SortW SCommon RefOf Go.Proofs.YtnplommdgfgboaaGreatDoor.Alike
theorem any_b:∀ (w:World) (ok ok':Nat → Prop) (x:UInt8) (cs:List Value),byteK.M w ok x cs → byteK.M w ok' x cs:=fun _ _ _ _ _ h=>h
theorem info_b:(Tryz.prog.info? 5).map (fun i=>(i.zero,i.size,i.bytes)) = some (some (.int .u8 0),1,1):=by kernel_rfl
theorem take_sl {w:World} {ok:Nat → Prop} {A:Option Addr} {c i:Nat} {hs:List UInt8} (h:byteK.sl.M w ok hs [.slice A hs.length c]) (hi:i ≤ hs.length):byteK.sl.M w ok (hs.take i) [.slice A (hs.take i).length c]:=by
 obtain ⟨A',c',he,h1,h2,h3,h4⟩:=h
 obtain ⟨rfl,rfl⟩:A = A'∧c = c':=by simpa using he
 have hl:(hs.take i).length = i:=by rw [List.length_take];omega
 refine ⟨A,c,rfl,by omega,⟨by omega,h2.2⟩,h3,fun j x hx=>h4 j x ?_⟩
 rw [List.getElem?_take] at hx
 split at hx
 ·
  exact hx
 ·
  cases hx
theorem dec_no {b:List UInt8} (hn:DecR b none) {w w':World} {e:Ending} (h:DecW.DPost b w e w'):e = .returned (.tuple #[.pointer none,.int .i64 2])∧Below w.heap.size w w':=by
 obtain ⟨⟨r,hr,hm⟩,hb⟩:=h
 obtain rfl:r = none:=hr.unique hn
 exact ⟨hm,hb⟩
theorem dec_yes {b:List UInt8} {T:List Triple} (hn:DecR b (some T)) {w w':World} {e:Ending} (h:DecW.DPost b w e w'):(∃ g,e = .returned (.tuple #[.pointer (some ⟨g,0,none⟩),.int .i64 0])∧StoreAt w' (fun _=>True) g T)∧Below w.heap.size w w':=by
 obtain ⟨⟨r,hr,hm⟩,hb⟩:=h
 obtain rfl:r = some T:=hr.unique hn
 exact ⟨hm,hb⟩
theorem walk0 (w:World) (he:Env w) (l:List Triple) (A:Option Addr) (c:Nat) (HL:triK.sl.M w (fun k=>k < w.heap.size) l [.slice A l.length c]) (cut':Int) (hcut:-9223372036854775808 ≤ cut'∧cut' ≤ 9223372036854775807) (at':Int) (hat:-9223372036854775808 ≤ at'∧at' ≤ 9223372036854775807) (by':UInt8) :
  Calls Tryz.prog 11 #[.slice A l.length c,.int .i64 cut',.int .i64 at',.int .u8 (by'.toNat:Int)] w fun e w'=>e = .returned (.bool true)∧Below w.heap.size w w':=by
 have HROW:Hid (∀ w',Below w.heap.size w w' → triK.sl.M w' (fun k=>k < w'.heap.size) l [.slice A l.length c]):=Zz (fun w' hb=>triK.sl.mono (fun k _ hk=>hk) (Kd.M_below HL hb))
 have HE:=Zz he
 have HLg:=Zz (Long11.long_calls l A c w he (HROW.o w (bR _ _)))
 have h47:=sl_len HL
 clear HL he
 have hby:=by'.toNat_lt
 have hK1:=CrcLaws.and_65535 cut'
 have hK2:=CrcLaws.and_65535 at'
 generalize hKc:Go.bits .and .i64 cut' 65535 = Kc at *
 generalize hKa:Go.bits .and .i64 at' 65535 = Ka at *
 go_enter Tryz.func11,Tryz.ntmps11
 by_cases hlook:looked l = true
 case neg =>
  have hl2:looked l = false:=by simpa using hlook
  rw [hl2] at HLg
  clear hlook hl2
  go_wp2_with fail
  refine HLg.o.mono ?_
  rintro e w2 ⟨rfl,hb⟩
  have HB:=Zz hb
  clear hb
  go_wp2
  go_ret
  exact ⟨rfl,HB.o⟩
 have HTot:=Zz (looked_total hlook)
 have HV:Hid (Valid l):=Zz (looked_valid hlook)
 rw [hlook] at HLg
 clear hlook
 go_wp2_with fail
 refine HLg.o.mono ?_
 rintro e w2 ⟨rfl,hb⟩
 have HB2:=Zz hb
 clear hb HLg
 by_cases h60:60 < l.length
 ·
  have hd2:decide ((60:Int) < (l.length:Int)) = true:=dT (by omega)
  have hd2':decide ((l.length:Int) > 60) = true:=dT (by omega)
  go_wp2
  go_ret
  exact ⟨rfl,HB2.o⟩
 have hd60:decide ((60:Int) < (l.length:Int)) = false:=dF (by omega)
 by_cases hz:by' = 0
 ·
  have q3:((by'.toNat:Int) == 0) = true:=by subst hz;rfl
  go_wp2
  go_ret
  exact ⟨rfl,HB2.o⟩
 have q3:((by'.toNat:Int) == 0) = false:=by
  rw [beq_eq_false_iff_ne]
  intro h
  exact hz (UInt8.toNat_inj.1 (by rw [UInt8.toNat_zero];omega))
 have HL60:Hid (l.length ≤ 60):=Zz (by omega)
 have HSm:=Zz (small_of HTot.o)
 have HFl:Hid ((l.flatMap lineN).length ≤ 130000):=Zz (flat_valid HV.o (by omega))
 have HPr:=Zz (fun W hb=>SortW.refprint_calls l A c W (HROW.o W hb) HSm.o (by have:=HFl.o;omega))
 obtain ⟨x,hx⟩:∃ x,x = l.flatMap lineN:=⟨_,rfl⟩
 have hxl:x.length ≤ 130000:=by rw [hx];exact HFl.o
 have HX:=Zz hx
 rw [← hx] at HPr
 have HP:=Zz (HPr.o w2 HB2.o)
 clear hx h60
 have zx:=mkS_size x
 go_wp2_with fail
 refine HP.o.mono ?_
 rintro e w3 ⟨rfl,hb⟩
 have HB3:=Zz (bel_step HB2.o hb)
 have HP3:=Zz (HPr.o w3 HB3.o)
 clear hb HP hd60 q3
 by_cases hbig:20000 < x.length
 ·
  have hd2:decide ((20000:Int) < (x.length:Int)) = true:=dT (by omega)
  go_wp2
  go_ret
  exact ⟨rfl,HB3.o⟩
 have hd20:decide ((20000:Int) < (x.length:Int)) = false:=dF (by omega)
 go_wp2_with fail
 refine HP3.o.mono ?_
 rintro e w4 ⟨rfl,hb⟩
 have HB4:=Zz (bel_step HB3.o hb)
 have HLd:=Zz (load_print l HV.o (by have:=HL60.o;omega) x HX.o (by omega) w4 (HE.o.below HB4.o))
 clear hb HP3
 go_wp2_with fail
 refine HLd.o.mono ?_
 rintro e w5 ⟨⟨ga,rfl,hS⟩,hb⟩
 have HB5:=Zz (bel_step HB4.o hb)
 have HSa5:=Zz hS
 have HVs:Hid (Valid (sortT l)):=Zz (ParseOk.sortT_valid HV.o)
 have HLs:Hid ((sortT l).length ≤ 100):=Zz (Nat.le_trans (ParseOk.sortT_len l) (by have:=HL60.o;omega))
 have HEn:=Zz (encode_calls (sortT l) HVs.o HLs.o ga w5 _ HSa5.o)
 have HSelf:=Zz (dec_self HVs.o (sortT_rise HV.o) HLs.o)
 have HCut:=Zz (fun i (hi:i < (encT (sortT l)).length)=>dec_cut HVs.o HLs.o hi)
 have HMore:=Zz (dec_more HVs.o HLs.o 0)
 have HTurn:=Zz (fun i (hi:i < (encT (sortT l)).length) c (hc:c ≠ (encT (sortT l))[i])=>dec_turn HVs.o HLs.o hi hc)
 have HRs:=Zz (fun W (hb:Below w.heap.size w W)=>SortW.refsort_calls l A c W (HROW.o W hb) HSm.o (by have:=HL60.o;omega))
 have hf1:=encT_pos (sortT l)
 have hf2:=encT_len HVs.o HLs.o
 clear hS hb HLd hxl zx hbig hd20 HPr HX HFl HTot
 generalize encT (sortT l) = fl at *
 dsimp only
 go_wp2_with fail
 refine HEn.o.mono ?_
 rintro e w6 ⟨⟨v6,rfl,ho6⟩,hb6⟩
 have HO6:=Zz ho6
 have HB6:=Zz (bel_step HB5.o hb6)
 obtain ⟨g,cap,rfl,hg1,hg2,hcap⟩:=Kd.own_form ho6 (by omega)
 have HM6:=Zz (Kd.own_sl (ok':=fun _=>True) ho6 (fun _ _=>trivial) (fun _ _=>trivial))
 have hn0:((fl.length:Int) == 0) = false:=by rw [beq_eq_false_iff_ne];omega
 have hi:Kc % (fl.length:Int) = ((Kc % (fl.length:Int)).toNat:Int):=(Int.toNat_of_nonneg (Int.emod_nonneg _ (by omega))).symm
 have hil:(Kc % (fl.length:Int)).toNat < fl.length:=by
  have:=Int.emod_lt_of_pos Kc (show (0:Int) < (fl.length:Int) by omega)
  omega
 generalize (Kc % (fl.length:Int)).toNat = i at *
 have hj:Ka % (fl.length:Int) = ((Ka % (fl.length:Int)).toNat:Int):=(Int.toNat_of_nonneg (Int.emod_nonneg _ (by omega))).symm
 have hjl:(Ka % (fl.length:Int)).toNat < fl.length:=by
  have:=Int.emod_lt_of_pos Ka (show (0:Int) < (fl.length:Int) by omega)
  omega
 generalize (Ka % (fl.length:Int)).toNat = j at *
 have HD9:=Zz (DecW.dec_calls fl (by omega) (some ⟨g,0,none⟩) cap w6 (HE.o.below HB6.o) HM6.o)
 clear ho6 hb6 HEn
 go_wp2_with fail
 refine HD9.o.mono ?_
 rintro e w7 hp
 obtain ⟨⟨gx,rfl,hSx⟩,hb7⟩:=dec_yes HSelf.o hp
 have HSx:=Zz hSx
 have HB7:=Zz (bel_step HB6.o hb7)
 have HM7:=Zz (byteK.sl.mono (ok':=fun _=>True) (fun _ _ _=>trivial) (Kd.M_below (Kd.M_bound HM6.o) hb7))
 have hicap':(i:Int) ≤ (cap:Int):=by omega
 have hi0:(0:Int) ≤ (i:Int):=by omega
 have HD10:=DecW.dec_calls (fl.take i) (by rw [List.length_take];omega) (some ⟨g,0,none⟩) cap w7 (HE.o.below HB7.o) (take_sl HM7.o (by omega))
 rw [show (fl.take i).length = i by rw [List.length_take];omega] at HD10
 have HD10:=Zz HD10
 clear hp hSx hb7 HD9 HM6 HO6
 dsimp only
 go_wp2_with fail
 refine HD10.o.mono ?_
 rintro e w8 hp
 obtain ⟨rfl,hb8⟩:=dec_no (HCut.o i hil) hp
 have HB8:=Zz (bel_step HB7.o hb8)
 have HSx8:=Zz (HSx.o.below hb8)
 have HM8:=Zz (byteK.sl.mono (ok':=fun _=>True) (fun _ _ _=>trivial) (Kd.M_below (Kd.M_bound HM7.o) hb8))
 clear hp hb8 HD10 HSx HM7 hi hicap' hi0 hil HCut
 have b0:Below w8.heap.size w8 (w8.alloc (.cells #[] 5)):=bel_alloc (bR _ _) _
 have HO0:Hid (byteK.own 5 (w8.alloc (.cells #[] 5)) w8.heap.size (fun _=>True) (.slice (some ⟨w8.heap.size,0,none⟩) 0 0) []):=
  Zz (Kd.own_block (cells:=[]) (xs:=[]) (lR _) (Kd.heap_new _ _) rfl (by simp) (fun i x h=>by simp at h))
 have HR0:=Zz (byteK.sl.mono (ok':=fun _=>True) (fun _ _ _=>trivial) (Kd.M_below (Kd.M_bound HM8.o) b0))
 obtain ⟨fl0,hfl0⟩:∃ fl0,fl0 = fl ++ [(0:UInt8)]:=⟨_,rfl⟩
 have HF0:=Zz hfl0
 have hf0:fl0.length ≤ 80000:=by rw [hfl0,List.length_append];simp;omega
 rw [← hfl0] at HMore
 clear hfl0
 dsimp only
 go_wp2_with (at_builtin;first | (refine Kd.own_app byteK w8.heap.size rfl (.tmp 74) (.tmp 75) 55 5 (.int .u8 0) 1 rfl Tryz.underlying55 info_b rfl (by decide) _ [] fl (some ⟨g,0,none⟩) cap (fun _=>True) rfl rfl HO0.o (.inr ⟨HR0.o,any_b⟩) b0 (by simp) (by simp;omega) ?_;intro v5 wa ho5 hb5 hg5 hv5;clear hg5 hv5;rw [List.nil_append] at ho5;have HO5:=Zz ho5;have HB5':=Zz hb5;clear ho5 hb5) | (refine Kd.own_app1 byteK w8.heap.size rfl (.tmp 76) (.tmp 77) 55 5 (.int .u8 0) 1 rfl Tryz.underlying55 info_b rfl (by decide) _ fl 0 [.int .u8 0] (fun _=>True) rfl rfl HO5.o rfl HB5'.o HB5'.o.size (by omega) ?_;intro v6 wb ho6 hb6 hg6 hv6;clear hg6 hv6;rw [← HF0.o] at ho6;have HM9:=Zz (Kd.own_sl (ok':=fun _=>True) ho6 (fun _ _=>trivial) (fun _ _=>trivial));obtain ⟨A9,c9,rfl,_,_⟩:=Kd.own_slice ho6;have HBb:=Zz hb6;clear ho6 hb6))
 refine (DecW.dec_calls fl0 hf0 A9 c9 wb (HE.o.below (bel_step HB8.o HBb.o)) HM9.o).mono ?_
 rintro e w9 hp
 obtain ⟨rfl,hb9⟩:=dec_no HMore.o hp
 have HB89:=Zz (bel_step HBb.o hb9)
 have HB9:=Zz (bel_step HB8.o HB89.o)
 have HSx9:=Zz (HSx8.o.below HB89.o)
 have HM9':=Zz (byteK.sl.mono (ok':=fun _=>True) (fun _ _ _=>trivial) (Kd.M_below (Kd.M_bound HM8.o) HB89.o))
 clear hp hb9 HM9 HBb HO5 HB5' HO0 HR0 b0 HM8 HSx8 HB89 HMore HF0 hf0
 have b0:Below w9.heap.size w9 (w9.alloc (.cells #[] 5)):=bel_alloc (bR _ _) _
 have HO0:Hid (byteK.own 5 (w9.alloc (.cells #[] 5)) w9.heap.size (fun _=>True) (.slice (some ⟨w9.heap.size,0,none⟩) 0 0) []):=
  Zz (Kd.own_block (cells:=[]) (xs:=[]) (lR _) (Kd.heap_new _ _) rfl (by simp) (fun i x h=>by simp at h))
 have HR0:=Zz (byteK.sl.mono (ok':=fun _=>True) (fun _ _ _=>trivial) (Kd.M_below (Kd.M_bound HM9'.o) b0))
 dsimp only
 go_upto_region 13 with (at_builtin;refine Kd.own_app byteK w9.heap.size rfl (.tmp 82) (.tmp 83) 55 5 (.int .u8 0) 1 rfl Tryz.underlying55 info_b rfl (by decide) _ [] fl (some ⟨g,0,none⟩) cap (fun _=>True) rfl rfl HO0.o (.inr ⟨HR0.o,any_b⟩) b0 (by simp) (by simp;omega) ?_;intro v7 wc ho7 hb7 hg7 hv7;clear hg7 hv7;rw [List.nil_append] at ho7;obtain ⟨gc,capc,rfl,hgc1,hgc2,hcapc⟩:=Kd.own_form ho7 (by omega);have HO7:=Zz ho7;have HBc:=Zz hb7;clear ho7 hb7)
 obtain ⟨u,hc,hu⟩:=Kd.own_cell rfl HO7.o hjl
 obtain rfl:u = .int .u8 (fl[j].toNat:Int):=by simpa [byteK,flat] using hu
 clear hu
 have hf:=Kd.own_frozen HO7.o j
 have hx:=CrcLaws.u8_xor_b fl[j] by'
 have HS:=Zz (Kd.own_set (u:=.int .u8 ((fl[j] ^^^ by').toNat:Int)) rfl HO7.o hjl (x:=fl[j] ^^^ by') rfl)
 have HBd:=Zz (bel_set HBc.o (g:=gc) (j:=j) hgc1 (.int .u8 ((fl[j] ^^^ by').toNat:Int)))
 have HT:=Zz (HTurn.o j hjl (fl[j] ^^^ by') (CrcLaws.xor_ne fl[j] by' hz))
 have hset:(fl.set j (fl[j] ^^^ by')).length = fl.length:=List.length_set
 clear HTurn
 generalize fl[j] ^^^ by' = xq at *
 generalize fl[j] = li at *
 have HSl:=Kd.own_sl (ok':=fun _=>True) HS.o (fun _ _=>trivial) (fun _ _=>trivial)
 have HBe:=Zz (bel_step HB9.o HBd.o)
 have HSx13:=Zz (HSx9.o.below HBd.o)
 have HD14:=DecW.dec_calls (fl.set j xq) (by rw [hset];omega) (some ⟨gc,0,none⟩) capc _ (HE.o.below HBe.o) (by rw [hset];exact HSl)
 rw [hset] at HD14
 have HD14:=Zz HD14
 clear HSl hset HS HBd HSx9
 go_wp2_with fail
 refine HD14.o.mono ?_
 rintro e w14 hp
 obtain ⟨rfl,hb14⟩:=dec_no HT.o hp
 have HB14:=Zz (bel_step HBe.o hb14)
 have HSx14:=Zz (HSx13.o.below hb14)
 have HRs14:=Zz (HRs.o w14 HB14.o)
 clear hp hb14 HD14 HSx13 HBe HRs HT hc hf hx hj HO7 HBc HB9 hn0
 dsimp only
 go_wp2_with fail
 refine HRs14.o.mono ?_
 rintro e w15 ⟨A15,c15,rfl,hM15,hb15⟩
 have HB15:=Zz (bel_step HB14.o hb15)
 have HSx15:=Zz (HSx14.o.below hb15)
 have HOf:=Zz (RefOf.of_calls (sortT l) HVs.o HLs.o A15 c15 w15 hM15)
 clear hM15 hb15 HRs14 HSx14
 go_wp2_with fail
 refine HOf.o.mono ?_
 rintro e w16 ⟨⟨gR,rfl,hRA⟩,hb16⟩
 have HB16:=Zz (bel_step HB15.o hb16)
 have HA:=Zz (alike_calls (sortT l) HVs.o HLs.o gx gR w16 (HSx15.o.below hb16) hRA)
 clear hRA hb16 HOf HSx15
 go_wp2_with fail
 refine HA.o.mono ?_
 rintro e w17 ⟨rfl,hb17⟩
 have HB17:=Zz (bel_step HB16.o hb17)
 have HK:=Zz (Known11.known_calls w17 (HE.o.below HB17.o))
 clear hb17 HA
 go_wp2_with fail
 refine HK.o.mono ?_
 rintro e w18 ⟨rfl,hb18⟩
 have HB18:=Zz (bel_step HB17.o hb18)
 clear hb18 HK
 go_wp2
 go_ret
 exact ⟨rfl,HB18.o⟩
theorem walk (w:World) (he:Env w) (l:List Triple) (v:Value) (m:triK.sl.M w (fun _=>True) l [v]) (cut':Int) (hcut:-9223372036854775808 ≤ cut'∧cut' ≤ 9223372036854775807) (at':Int) (hat:-9223372036854775808 ≤ at'∧at' ≤ 9223372036854775807) (by':UInt8) :
  Calls Tryz.prog 11 #[v,.int .i64 cut',.int .i64 at',.int .u8 (by'.toNat:Int)] w fun e w'=>e = .returned (.bool true)∧Below w.heap.size w w':=by
 obtain ⟨A,c,hv,h⟩:=id m
 obtain rfl:v = .slice A l.length c:=by simpa using hv
 exact walk0 w he l A c (triK.sl.mono (fun k _ hk=>hk) m) cut' hcut at' hat by'
end SBack
end Go.Proofs.YtnplommdgfgboaaGreatDoor
