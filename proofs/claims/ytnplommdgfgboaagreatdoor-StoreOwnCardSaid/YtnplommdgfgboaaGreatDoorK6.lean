/-
  Texts of the claim, one behind the other: SymG2, Sym, Stable, Clone, Compact, Compact2, Compact3, Sort, Prg6, Prg7, Split, Prg8, Prg9.
-/
import Derived.Test.YtnplommdgfgboaaGreatDoorK5
import Derived.Lib.SplitLaws
import Derived.Lib.CountLaws
import Derived.Lib.IndexLaws
set_option linter.unusedVariables false
set_option linter.unusedSimpArgs false
namespace Go.Proofs.YtnplommdgfgboaaGreatDoor.SortW
open Go.RowKit Go.Lib B Rd Utf TermPure LinesPure Tx Env Tri SortP Print Cmp Long
set_option maxHeartbeats 25600000 in
set_option maxRecDepth 100000 in
theorem sym_gen2 (L cap:Nat) (hLs:L ≤ 140737488355328) (g:Nat) (W:World) (N:Nat) (hIH:SymC L cap g W N) (P A B Q:List Triple) (a m b:Nat) (w:World) (hN:A.length + B.length ≤ N + 1) (hA0:0 < A.length) (hB0:0 < B.length) (hL:(P ++ (A ++ (B ++ Q))).length = L) (ha:a = P.length) (hm:m = a + A.length) (hb:b = m + B.length) (hA:Sorted' A) (hB:Sorted' B) (hsm:∀ t ∈ A ++ B,SmallT t) (hS:SR W g (P ++ (A ++ (B ++ Q))) w) (c1:¬ A.length = 1) (c2:¬ B.length = 1) (hcase:m ≤ (a + b) / 2) :
  Calls Tryz.prog 195 #[.slice (some ⟨g,0,none⟩) L cap,.int .i64 a,.int .i64 m,.int .i64 b,cmpV] w fun e w'=>e = .returned (.tuple #[])∧∃ R,R.Perm (A ++ B)∧Sorted' R∧SR W g (P ++ (R ++ Q)) w':=by
 have hlen:=hL
 simp only [List.length_append] at hlen
 have IH:=Lib.hid hIH
 obtain ⟨d0,hd0⟩:∃ d0,d0 = m - a:=⟨_,rfl⟩
 have w0:IntKind.i64.wrap ((m:Int) - (a:Int)) = (d0:Int):=by rw [IntKind.wrap_i64];omega
 have w00:((d0:Int) == 1) = false:=by rw [beq_eq_false_iff_ne];omega
 obtain ⟨d1,hd1⟩:∃ d1,d1 = b - m:=⟨_,rfl⟩
 have w1:IntKind.i64.wrap ((b:Int) - (m:Int)) = (d1:Int):=by rw [IntKind.wrap_i64];omega
 have w11:((d1:Int) == 1) = false:=by rw [beq_eq_false_iff_ne];omega
 obtain ⟨mid,hmid⟩:∃ mid,mid = (a + b) / 2:=⟨_,rfl⟩
 have hq:((a:Int) + (b:Int)) / 2 = (mid:Int):=by omega
 obtain ⟨n,hn⟩:∃ n,n = mid + m:=⟨_,rfl⟩
 have wn:IntKind.i64.wrap ((mid:Int) + (m:Int)) = (n:Int):=by rw [IntKind.wrap_i64];omega
 obtain ⟨p,hp⟩:∃ p,p + 1 = n:=⟨n - 1,by omega⟩
 have wp:IntKind.i64.wrap ((n:Int) - 1) = (p:Int):=by rw [IntKind.wrap_i64];omega
 rw [← hmid] at hcase
 have HSR:Hid ((mid < m∧a + b = n∧m = mid) ∨ (m ≤ mid∧a = a∧m = m)):=Lib.hid (.inr ⟨hcase,rfl,rfl⟩)
 have hdm:decide (mid < m) = false:=decide_eq_false (by omega)
 have hbds:a ≤ a∧a ≤ m∧m ≤ m∧a ≤ n:=by omega
 have hin:∀ c,a ≤ c → c < m → m ≤ p - c∧p - c < b∧a ≤ c∧c < m∧c ≤ p:=fun c h1 h2=>by omega
 obtain ⟨hb1,hb2,hb3,hb4⟩:=hbds
 have hbL:b ≤ L:=by omega
 have ham:a < m:=by omega
 have hmb:m < b:=by omega
 have hamid:a < mid:=by omega
 have hmidb:mid < b:=by omega
 have HIn:=Lib.hid hin
 have HA:=Lib.hid (show a = P.length∧m = P.length + A.length∧b = m + B.length∧mid = (a + b) / 2∧n = mid + m∧p + 1 = n∧A.length + B.length ≤ N + 1 from ⟨ha,by omega,hb,hmid,hn,hp,hN⟩)
 have HAs:=Lib.hid hA
 have HBs:=Lib.hid hB
 have HSm:=Lib.hid hsm
 have HS0:=Lib.hid hS
 have HL:=Lib.hid hL
 clear hin hS hL hlen ha hb hA hB hsm hm hd0 hd1 hmid hn hp c1 c2 hA0 hB0 hN hIH
 unfold cmpV at *
 go_enter Tryz.func195,Tryz.ntmps195
 go_wp2
 go_loopw [20,21] (fun vi vj wr=>∃ i j:Nat,vi = .int .i64 i∧vj = .int .i64 j∧a ≤ i∧i ≤ j∧j ≤ m∧Hid ((i = a ∨ ∃ u v,A[i - 1 - a]? = some u∧B[n - i - m]? = some v∧¬ ltT v u)∧(j = m ∨ ∃ u v,A[j - a]? = some u∧B[p - j - m]? = some v∧ltT v u)∧SR W g (P ++ (A ++ (B ++ Q))) wr)) (fun vi vj _=>(intOf vj).toNat - (intOf vi).toNat)
 case atStart=>exact ⟨a,m,rfl,rfl,by omega,by omega,by omega,Lib.hid ⟨.inl rfl,.inl rfl,HS0.out⟩⟩
 case round =>
 obtain ⟨i,j,rfl,rfl,hmi,hij,hjb,HR⟩:=hrel
 clear HS0 w0 w00 w1 w11 hq wn
 by_cases hlt:i < j
 ·
  have hd:decide (i < j) = true:=decide_eq_true hlt
  obtain ⟨h,hh⟩:∃ h,h = (i + j) / 2:=⟨_,rfl⟩
  have hq:((i:Int) + (j:Int)) / 2 = (h:Int):=by omega
  have hih:i ≤ h:=by omega
  have hhj:h < j:=by omega
  clear hh
  obtain ⟨i1,i2,i3,i4,i5⟩:=HIn.out h (by omega) (by omega)
  obtain ⟨pc,hpc⟩:∃ pc,pc = p - h:=⟨_,rfl⟩
  have wpc:IntKind.i64.wrap ((p:Int) - (h:Int)) = (pc:Int):=by rw [IntKind.wrap_i64];omega
  have hhb:(h:Int) < (L:Int):=by omega
  have hab:(pc:Int) < (L:Int):=by omega
  have hAl:h - a < A.length:=by have h1:=HA.out.1;have h2:=HA.out.2.1;omega
  have hBl:pc - m < B.length:=by have h1:=HA.out.2.2.1;omega
  obtain ⟨x,hu⟩:∃ x,A[h - a]? = some x:=⟨_,List.getElem?_eq_getElem hAl⟩
  obtain ⟨y,hv⟩:∃ y,B[pc - m]? = some y:=⟨_,List.getElem?_eq_getElem hBl⟩
  have hrow:(P ++ (A ++ (B ++ Q)))[h]? = some x:=by
   rw [← hu,← at_A (P:=P) (A:=A) (B:=B) (Q:=Q) hAl]
   congr 1
   have:=HA.out.1
   omega
  have hrow0:(P ++ (A ++ (B ++ Q)))[pc]? = some y:=by
   rw [← hv,← at_B (P:=P) (A:=A) (B:=B) (Q:=Q) hBl]
   congr 1
   have:=HA.out.2.1
   omega
  have hcu:=HR.out.2.2.at hrow
  have hcv:=HR.out.2.2.at hrow0
  have hgl:=hcu.lt
  have HBk:Hid (∀ w2,Below wr.heap.size wr w2 → SR W g (P ++ (A ++ (B ++ Q))) w2):=Lib.hid (fun w2 hb=>HR.out.2.2.below hgl hb)
  have HC:=Lib.hid (fun w=>cmp_calls y x (HSm.out y (List.mem_append_right _ (List.mem_of_getElem? hv))) (HSm.out x (List.mem_append_left _ (List.mem_of_getElem? hu))) w)
  have HLt:Hid (cmpT y x < 0 ↔ ltT y x):=Lib.hid Iff.rfl
  have HU:Hid (A[h - a]? = some x∧B[p - h - m]? = some y∧B[n - (h + 1) - m]? = some y):=Lib.hid ⟨hu,by rw [← hpc];exact hv,by rw [← hv];congr 1;have:=HA.out.2.2.2.2.2.1;omega⟩
  have HI:=Lib.hid HR.out.1
  have HJ:=Lib.hid HR.out.2.1
  obtain ⟨r,hr⟩:∃ r,r = cmpT y x:=⟨_,rfl⟩
  rw [← hr] at HC HLt
  clear hr hu hv hrow hrow0 hAl hBl HR hpc
  by_cases hvn:r < 0
  ·
   have hvd:decide (r < 0) = true:=decide_eq_true hvn
   have HYL:Hid (ltT y x):=Lib.hid (HLt.out.1 hvn)
   have HJ2:Hid (h = m ∨ ∃ u v,A[h - a]? = some u∧B[p - h - m]? = some v∧ltT v u):=Lib.hid (.inr ⟨x,y,HU.out.1,HU.out.2.1,HYL.out⟩)
   clear hvn HLt HU HYL HJ
   obtain ⟨⟨sk',sx',se'⟩,⟨pk',px',pe'⟩,⟨ok',ox',oe'⟩⟩:=y
   obtain ⟨⟨sk,sx,se⟩,⟨pk,px,pe⟩,⟨ok,ox,oe⟩⟩:=x
   have y0:=fun p=>(hcv.bel p).c0
   have y1:=fun p=>(hcv.bel p).c1
   have y2:=fun p=>(hcv.bel p).c2
   have y3:=fun p=>(hcv.bel p).c3
   have y4:=fun p=>(hcv.bel p).c4
   have y5:=fun p=>(hcv.bel p).c5
   have y6:=fun p=>(hcv.bel p).c6
   have y7:=fun p=>(hcv.bel p).c7
   have y8:=fun p=>(hcv.bel p).c8
   have x0:=fun p=>(hcu.bel p).c0
   have x1:=fun p=>(hcu.bel p).c1
   have x2:=fun p=>(hcu.bel p).c2
   have x3:=fun p=>(hcu.bel p).c3
   have x4:=fun p=>(hcu.bel p).c4
   have x5:=fun p=>(hcu.bel p).c5
   have x6:=fun p=>(hcu.bel p).c6
   have x7:=fun p=>(hcu.bel p).c7
   have x8:=fun p=>(hcu.bel p).c8
   dsimp only at y0 y1 y2 y3 y4 y5 y6 y7 y8 x0 x1 x2 x3 x4 x5 x6 x7 x8
   unfold Ref5.tripleV at HC
   dsimp only at HC
   go_upto_region 35 with fail
   refine QT.region_all (by kernel_rfl) (by kernel_rfl) ?_
   iterate 11 (go_big_quiet_step (fail))
   go_big_quiet_step (exact QT.Bel.call _ (HC.out _))
   iterate 2 (go_big_quiet_step (fail))
   refine wpQuiet_nil ?_
   intro w2 hw'
   obtain ⟨⟨_,hb⟩,rfl⟩:=hw'
   have HS2:=Lib.hid (HBk.out w2 hb)
   clear hb y0 y1 y2 y3 y4 y5 y6 y7 y8 x0 x1 x2 x3 x4 x5 x6 x7 x8 hcu hcv
   go_wp2
   go_roundw
   case rel=>exact ⟨i,h,rfl,by go_num,hmi,by omega,by omega,Lib.hid ⟨HI.out,HJ2.out,HS2.out⟩⟩
   case measure=>simp [intOf];omega
  ·
   have hvd:decide (r < 0) = false:=decide_eq_false hvn
   have HYL:Hid (¬ ltT y x):=Lib.hid (fun hl=>hvn (HLt.out.2 hl))
   have HI2:Hid (h + 1 = a ∨ ∃ u v,A[h + 1 - 1 - a]? = some u∧B[n - (h + 1) - m]? = some v∧¬ ltT v u):=Lib.hid (.inr ⟨x,y,by rw [show h + 1 - 1 - a = h - a by omega];exact HU.out.1,HU.out.2.2,HYL.out⟩)
   clear hvn HLt HU HYL HI
   obtain ⟨⟨sk',sx',se'⟩,⟨pk',px',pe'⟩,⟨ok',ox',oe'⟩⟩:=y
   obtain ⟨⟨sk,sx,se⟩,⟨pk,px,pe⟩,⟨ok,ox,oe⟩⟩:=x
   have y0:=fun p=>(hcv.bel p).c0
   have y1:=fun p=>(hcv.bel p).c1
   have y2:=fun p=>(hcv.bel p).c2
   have y3:=fun p=>(hcv.bel p).c3
   have y4:=fun p=>(hcv.bel p).c4
   have y5:=fun p=>(hcv.bel p).c5
   have y6:=fun p=>(hcv.bel p).c6
   have y7:=fun p=>(hcv.bel p).c7
   have y8:=fun p=>(hcv.bel p).c8
   have x0:=fun p=>(hcu.bel p).c0
   have x1:=fun p=>(hcu.bel p).c1
   have x2:=fun p=>(hcu.bel p).c2
   have x3:=fun p=>(hcu.bel p).c3
   have x4:=fun p=>(hcu.bel p).c4
   have x5:=fun p=>(hcu.bel p).c5
   have x6:=fun p=>(hcu.bel p).c6
   have x7:=fun p=>(hcu.bel p).c7
   have x8:=fun p=>(hcu.bel p).c8
   dsimp only at y0 y1 y2 y3 y4 y5 y6 y7 y8 x0 x1 x2 x3 x4 x5 x6 x7 x8
   unfold Ref5.tripleV at HC
   dsimp only at HC
   go_upto_region 35 with fail
   refine QT.region_all (by kernel_rfl) (by kernel_rfl) ?_
   iterate 11 (go_big_quiet_step (fail))
   go_big_quiet_step (exact QT.Bel.call _ (HC.out _))
   iterate 2 (go_big_quiet_step (fail))
   refine wpQuiet_nil ?_
   intro w2 hw'
   obtain ⟨⟨_,hb⟩,rfl⟩:=hw'
   have HS2:=Lib.hid (HBk.out w2 hb)
   clear hb y0 y1 y2 y3 y4 y5 y6 y7 y8 x0 x1 x2 x3 x4 x5 x6 x7 x8 hcu hcv
   go_wp2
   go_roundw
   case rel=>exact ⟨h + 1,j,by go_num,rfl,by omega,by omega,hjb,Lib.hid ⟨HI2.out,HJ.out,HS2.out⟩⟩
   case measure=>simp [intOf];omega
 ·
  have hd:decide (i < j) = false:=decide_eq_false hlt
  obtain rfl:i = j:=by omega
  obtain ⟨en,hen⟩:∃ en,en = n - i:=⟨_,rfl⟩
  have wen:IntKind.i64.wrap ((n:Int) - (i:Int)) = (en:Int):=by rw [IntKind.wrap_i64];have:=HA.out.2.2.2.2.1;omega
  have hbnd:a ≤ i∧i ≤ m∧m ≤ en∧en ≤ b∧mid + m = i + en∧i ≤ mid∧mid ≤ en:=by
   have h1:=HA.out.2.2.2.2.1
   have h2:=HA.out.2.2.2.1
   rcases HSR.out with ⟨h3,h4,h5⟩ | ⟨h3,h4,h5⟩ <;> omega
  obtain ⟨n1,n2,n3,n4,n5,n6,n7⟩:=hbnd
  obtain ⟨A1,hA1⟩:∃ A1,A1 = A.take (i - a):=⟨_,rfl⟩
  obtain ⟨A2,hA2⟩:∃ A2,A2 = A.drop (i - a):=⟨_,rfl⟩
  obtain ⟨B1,hB1⟩:∃ B1,B1 = B.take (en - m):=⟨_,rfl⟩
  obtain ⟨B2,hB2⟩:∃ B2,B2 = B.drop (en - m):=⟨_,rfl⟩
  have HLn:Hid (A1.length = i - a∧A2.length = m - i∧B1.length = en - m∧B2.length = b - en):=Lib.hid (by
   have h1:=HA.out.1;have h2:=HA.out.2.1;have h3:=HA.out.2.2.1
   rw [hA1,hA2,hB1,hB2,List.length_take,List.length_drop,List.length_take,List.length_drop]
   omega)
  have HAB:Hid (A = A1 ++ A2∧B = B1 ++ B2):=Lib.hid ⟨by rw [hA1,hA2,List.take_append_drop],by rw [hB1,hB2,List.take_append_drop]⟩
  have HHalf:Hid (∀ R1 R2,R1.Perm (A1 ++ B1) → R2.Perm (A2 ++ B2) → Sorted' R1 → Sorted' R2 → (R1 ++ R2).Perm (A ++ B)∧Sorted' (R1 ++ R2)):=Lib.hid (by
   intro R1 R2 p1 p2 s1 s2
   have h1:=HA.out.1;have h2:=HA.out.2.1;have h3:=HA.out.2.2.1;have h4:=HA.out.2.2.2.2.1;have h5:=HA.out.2.2.2.2.2.1
   refine halves (s:=i - a) (e:=en - m) HAs.out HBs.out ?_ ?_ (by rw [← hA1,← hB1];exact p1) (by rw [← hA2,← hB2];exact p2) s1 s2
   ·
    rcases HR.out.1 with h | ⟨u,v,hu,hv,hl⟩
    ·
     rcases HSR.out with ⟨h6,h7,h8⟩ | ⟨h6,h7,h8⟩
     ·
      right;left;omega
     ·
      left;omega
    ·
     right;right
     exact ⟨u,v,by rw [← hu];congr 1;omega,by rw [← hv];congr 1;omega,hl⟩
   ·
    rcases HR.out.2.1 with h | ⟨u,v,hu,hv,hl⟩
    ·
     rcases HSR.out with ⟨h6,h7,h8⟩ | ⟨h6,h7,h8⟩
     ·
      right;left;omega
     ·
      left;omega
    ·
     right;right
     exact ⟨v,u,by rw [← hv];congr 1;omega,hu,ltT_asymm hl⟩)
  have HSm2:Hid ((∀ t ∈ A1 ++ B1,SmallT t)∧(∀ t ∈ A2 ++ B2,SmallT t)):=Lib.hid (by
   have h:=HSm.out
   rw [HAB.out.1,HAB.out.2] at h
   refine ⟨fun t ht=>h t ?_,fun t ht=>h t ?_⟩
   ·
    rcases List.mem_append.1 ht with ht | ht <;> simp [ht]
   ·
    rcases List.mem_append.1 ht with ht | ht <;> simp [ht])
  have HSt:Hid (Sorted' A1∧Sorted' A2∧Sorted' B1∧Sorted' B2):=Lib.hid (by
   have hA:=HAs.out
   have hB:=HBs.out
   rw [HAB.out.1] at hA
   rw [HAB.out.2] at hB
   exact ⟨(List.pairwise_append.1 hA).1,(List.pairwise_append.1 hA).2.1,(List.pairwise_append.1 hB).1,(List.pairwise_append.1 hB).2.1⟩)
  have HRow:Hid (SR W g (P ++ (A1 ++ (A2 ++ (B1 ++ (B2 ++ Q))))) wr∧P.length + (A1.length + (A2.length + (B1.length + (B2.length + Q.length)))) = L):=Lib.hid (by
   have h:=HR.out.2.2
   have hl:=HL.out
   rw [HAB.out.1,HAB.out.2] at h hl
   refine ⟨by simpa [List.append_assoc] using h,?_⟩
   simp only [List.length_append] at hl
   omega)
  clear HR HAs HBs HSm HL hA1 hA2 hB1 hB2 hen
  have HTot:=Lib.hid HRow.out.2
  by_cases e1:i < m
  ·
   have x1:decide (i < m) = true:=decide_eq_true e1
   by_cases e2:m < en
   ·
    have x2:decide (m < en) = true:=decide_eq_true e2
    have HC:=Lib.hid (rotate_calls (.func (.func 119) #[] #[]) (P ++ A1) A2 B1 (B2 ++ Q) (by have:=HLn.out.2.1;omega) (by have:=HLn.out.2.2.1;omega) L (by have:=HRow.out.2;simp only [List.length_append];omega) hLs i m en cap (by have h1:=HLn.out.1;have h2:=HA.out.1;rw [List.length_append];omega) (by have:=HLn.out.2.1;omega) (by have:=HLn.out.2.2.1;omega) g W wr (by have:=HRow.out.1;rw [List.append_assoc];exact this))
    go_wp2_with fail
    refine HC.out.mono ?_
    rintro e w7 ⟨rfl,hS2⟩
    have HRow2:Hid (SR W g (P ++ (A1 ++ (B1 ++ (A2 ++ (B2 ++ Q))))) w7):=Lib.hid (by rw [← List.append_assoc];exact hS2)
    clear hS2 HRow HC
    by_cases e3:a < i
    ·
     have x3:decide (a < i) = true:=decide_eq_true e3
     by_cases e4:i < mid
     ·
      have x4:decide (i < mid) = true:=decide_eq_true e4
      have HC:=Lib.hid (IH.out P A1 B1 (A2 ++ (B2 ++ Q)) a i mid w7 (by have h1:=HLn.out.1;have h2:=HLn.out.2.2.1;have h3:=HA.out;omega) (by have:=HLn.out.1;omega) (by have:=HLn.out.2.2.1;omega) (by have:=HTot.out;simp only [List.length_append];omega) HA.out.1 (by have:=HLn.out.1;omega) (by have h2:=HLn.out.2.2.1;omega) HSt.out.1 HSt.out.2.2.1 HSm2.out.1 HRow2.out)
      go_wp2_with fail
      refine HC.out.mono ?_
      rintro e w8 ⟨rfl,R1,hp1,hs1,hS2⟩
      have HR1:=Lib.hid (show R1.Perm (A1 ++ B1)∧Sorted' R1∧SR W g (P ++ (R1 ++ (A2 ++ (B2 ++ Q)))) w8 from ⟨hp1,hs1,hS2⟩)
      clear hp1 hs1 hS2 HRow2 HC
      have HL1:Hid (R1.length = mid - a):=Lib.hid (by rw [HR1.out.1.length_eq,List.length_append,HLn.out.1,HLn.out.2.2.1];omega)
      by_cases e5:mid < en
      ·
       have x5:decide (mid < en) = true:=decide_eq_true e5
       by_cases e6:en < b
       ·
        have x6:decide (en < b) = true:=decide_eq_true e6
        have HC:=Lib.hid (IH.out (P ++ R1) A2 B2 Q mid en b w8 (by have h1:=HLn.out.2.1;have h2:=HLn.out.2.2.2;have h3:=HA.out;omega) (by have:=HLn.out.2.1;omega) (by have:=HLn.out.2.2.2;omega) (by have h0:=HTot.out;have h1:=HL1.out;have h2:=HLn.out;simp only [List.length_append];omega) (by have h1:=HL1.out;have h2:=HA.out.1;rw [List.length_append];omega) (by have:=HLn.out.2.1;omega) (by have h2:=HLn.out.2.2.2;omega) HSt.out.2.1 HSt.out.2.2.2 HSm2.out.2 (by rw [List.append_assoc];exact HR1.out.2.2))
        go_wp2_with fail
        refine HC.out.mono ?_
        rintro e w9 ⟨rfl,R2,hp2,hs2,hS2⟩
        have HEnd:Hid (∃ R,R.Perm (A ++ B)∧Sorted' R∧SR W g (P ++ (R ++ Q)) w9):=Lib.hid ⟨R1 ++ R2,(HHalf.out R1 R2 HR1.out.1 hp2 HR1.out.2.1 hs2).1,(HHalf.out R1 R2 HR1.out.1 hp2 HR1.out.2.1 hs2).2,by simpa [List.append_assoc] using hS2⟩
        clear hp2 hs2 hS2
        go_wp2
        go_end0
        exact ⟨rfl,HEnd.out⟩
       ·
        have x6:decide (en < b) = false:=decide_eq_false e6
        have HEnd:Hid (∃ R,R.Perm (A ++ B)∧Sorted' R∧SR W g (P ++ (R ++ Q)) w8):=Lib.hid (by
         have h0:B2 = []:=List.eq_nil_of_length_eq_zero (by have:=HLn.out.2.2.2;omega)
         have h:=HHalf.out R1 A2 HR1.out.1 (by rw [h0,List.append_nil]) HR1.out.2.1 HSt.out.2.1
         have h2:=HR1.out.2.2
         rw [h0] at h2
         exact ⟨_,h.1,h.2,by simpa [List.append_assoc] using h2⟩)
        go_wp2
        go_end0
        exact ⟨rfl,HEnd.out⟩
      ·
       have x5:decide (mid < en) = false:=decide_eq_false e5
       have HEnd:Hid (∃ R,R.Perm (A ++ B)∧Sorted' R∧SR W g (P ++ (R ++ Q)) w8):=Lib.hid (by
        have h0:A2 = []:=List.eq_nil_of_length_eq_zero (by have:=HLn.out.2.1;omega)
        have h:=HHalf.out R1 B2 HR1.out.1 (by rw [h0,List.nil_append]) HR1.out.2.1 HSt.out.2.2.2
        have h2:=HR1.out.2.2
        rw [h0] at h2
        exact ⟨_,h.1,h.2,by simpa [List.append_assoc] using h2⟩)
       go_wp2
       go_end0
       exact ⟨rfl,HEnd.out⟩
     ·
      have x4:decide (i < mid) = false:=decide_eq_false e4
      have HR1:Hid (A1.Perm (A1 ++ B1)∧Sorted' A1∧SR W g (P ++ (A1 ++ (A2 ++ (B2 ++ Q)))) w7):=Lib.hid (by
       have:B1 = []:=List.eq_nil_of_length_eq_zero (by have:=HLn.out.2.2.1;omega)
       have h:=HRow2.out
       rw [this] at h ⊢
       exact ⟨by rw [List.append_nil],HSt.out.1,h⟩)
      clear HRow2
      obtain ⟨R1,hR1⟩:∃ R1,R1 = A1:=⟨_,rfl⟩
      have HR1:Hid (R1.Perm (A1 ++ B1)∧Sorted' R1∧SR W g (P ++ (R1 ++ (A2 ++ (B2 ++ Q)))) w7):=Lib.hid (by rw [hR1];exact HR1.out)
      clear hR1
      have HL1:Hid (R1.length = mid - a):=Lib.hid (by rw [HR1.out.1.length_eq,List.length_append,HLn.out.1,HLn.out.2.2.1];omega)
      by_cases e5:mid < en
      ·
       have x5:decide (mid < en) = true:=decide_eq_true e5
       by_cases e6:en < b
       ·
        have x6:decide (en < b) = true:=decide_eq_true e6
        have HC:=Lib.hid (IH.out (P ++ R1) A2 B2 Q mid en b w7 (by have h1:=HLn.out.2.1;have h2:=HLn.out.2.2.2;have h3:=HA.out;omega) (by have:=HLn.out.2.1;omega) (by have:=HLn.out.2.2.2;omega) (by have h0:=HTot.out;have h1:=HL1.out;have h2:=HLn.out;simp only [List.length_append];omega) (by have h1:=HL1.out;have h2:=HA.out.1;rw [List.length_append];omega) (by have:=HLn.out.2.1;omega) (by have h2:=HLn.out.2.2.2;omega) HSt.out.2.1 HSt.out.2.2.2 HSm2.out.2 (by rw [List.append_assoc];exact HR1.out.2.2))
        go_wp2_with fail
        refine HC.out.mono ?_
        rintro e w9 ⟨rfl,R2,hp2,hs2,hS2⟩
        have HEnd:Hid (∃ R,R.Perm (A ++ B)∧Sorted' R∧SR W g (P ++ (R ++ Q)) w9):=Lib.hid ⟨R1 ++ R2,(HHalf.out R1 R2 HR1.out.1 hp2 HR1.out.2.1 hs2).1,(HHalf.out R1 R2 HR1.out.1 hp2 HR1.out.2.1 hs2).2,by simpa [List.append_assoc] using hS2⟩
        clear hp2 hs2 hS2
        go_wp2
        go_end0
        exact ⟨rfl,HEnd.out⟩
       ·
        have x6:decide (en < b) = false:=decide_eq_false e6
        have HEnd:Hid (∃ R,R.Perm (A ++ B)∧Sorted' R∧SR W g (P ++ (R ++ Q)) w7):=Lib.hid (by
         have h0:B2 = []:=List.eq_nil_of_length_eq_zero (by have:=HLn.out.2.2.2;omega)
         have h:=HHalf.out R1 A2 HR1.out.1 (by rw [h0,List.append_nil]) HR1.out.2.1 HSt.out.2.1
         have h2:=HR1.out.2.2
         rw [h0] at h2
         exact ⟨_,h.1,h.2,by simpa [List.append_assoc] using h2⟩)
        go_wp2
        go_end0
        exact ⟨rfl,HEnd.out⟩
      ·
       have x5:decide (mid < en) = false:=decide_eq_false e5
       have HEnd:Hid (∃ R,R.Perm (A ++ B)∧Sorted' R∧SR W g (P ++ (R ++ Q)) w7):=Lib.hid (by
        have h0:A2 = []:=List.eq_nil_of_length_eq_zero (by have:=HLn.out.2.1;omega)
        have h:=HHalf.out R1 B2 HR1.out.1 (by rw [h0,List.nil_append]) HR1.out.2.1 HSt.out.2.2.2
        have h2:=HR1.out.2.2
        rw [h0] at h2
        exact ⟨_,h.1,h.2,by simpa [List.append_assoc] using h2⟩)
       go_wp2
       go_end0
       exact ⟨rfl,HEnd.out⟩
    ·
     have x3:decide (a < i) = false:=decide_eq_false e3
     have HR1:Hid (B1.Perm (A1 ++ B1)∧Sorted' B1∧SR W g (P ++ (B1 ++ (A2 ++ (B2 ++ Q)))) w7):=Lib.hid (by
      have:A1 = []:=List.eq_nil_of_length_eq_zero (by have:=HLn.out.1;omega)
      have h:=HRow2.out
      rw [this] at h ⊢
      exact ⟨List.Perm.refl _,HSt.out.2.2.1,h⟩)
     clear HRow2
     obtain ⟨R1,hR1⟩:∃ R1,R1 = B1:=⟨_,rfl⟩
     have HR1:Hid (R1.Perm (A1 ++ B1)∧Sorted' R1∧SR W g (P ++ (R1 ++ (A2 ++ (B2 ++ Q)))) w7):=Lib.hid (by rw [hR1];exact HR1.out)
     clear hR1
     have HL1:Hid (R1.length = mid - a):=Lib.hid (by rw [HR1.out.1.length_eq,List.length_append,HLn.out.1,HLn.out.2.2.1];omega)
     by_cases e5:mid < en
     ·
      have x5:decide (mid < en) = true:=decide_eq_true e5
      by_cases e6:en < b
      ·
       have x6:decide (en < b) = true:=decide_eq_true e6
       have HC:=Lib.hid (IH.out (P ++ R1) A2 B2 Q mid en b w7 (by have h1:=HLn.out.2.1;have h2:=HLn.out.2.2.2;have h3:=HA.out;omega) (by have:=HLn.out.2.1;omega) (by have:=HLn.out.2.2.2;omega) (by have h0:=HTot.out;have h1:=HL1.out;have h2:=HLn.out;simp only [List.length_append];omega) (by have h1:=HL1.out;have h2:=HA.out.1;rw [List.length_append];omega) (by have:=HLn.out.2.1;omega) (by have h2:=HLn.out.2.2.2;omega) HSt.out.2.1 HSt.out.2.2.2 HSm2.out.2 (by rw [List.append_assoc];exact HR1.out.2.2))
       go_wp2_with fail
       refine HC.out.mono ?_
       rintro e w9 ⟨rfl,R2,hp2,hs2,hS2⟩
       have HEnd:Hid (∃ R,R.Perm (A ++ B)∧Sorted' R∧SR W g (P ++ (R ++ Q)) w9):=Lib.hid ⟨R1 ++ R2,(HHalf.out R1 R2 HR1.out.1 hp2 HR1.out.2.1 hs2).1,(HHalf.out R1 R2 HR1.out.1 hp2 HR1.out.2.1 hs2).2,by simpa [List.append_assoc] using hS2⟩
       clear hp2 hs2 hS2
       go_wp2
       go_end0
       exact ⟨rfl,HEnd.out⟩
      ·
       have x6:decide (en < b) = false:=decide_eq_false e6
       have HEnd:Hid (∃ R,R.Perm (A ++ B)∧Sorted' R∧SR W g (P ++ (R ++ Q)) w7):=Lib.hid (by
        have h0:B2 = []:=List.eq_nil_of_length_eq_zero (by have:=HLn.out.2.2.2;omega)
        have h:=HHalf.out R1 A2 HR1.out.1 (by rw [h0,List.append_nil]) HR1.out.2.1 HSt.out.2.1
        have h2:=HR1.out.2.2
        rw [h0] at h2
        exact ⟨_,h.1,h.2,by simpa [List.append_assoc] using h2⟩)
       go_wp2
       go_end0
       exact ⟨rfl,HEnd.out⟩
     ·
      have x5:decide (mid < en) = false:=decide_eq_false e5
      have HEnd:Hid (∃ R,R.Perm (A ++ B)∧Sorted' R∧SR W g (P ++ (R ++ Q)) w7):=Lib.hid (by
       have h0:A2 = []:=List.eq_nil_of_length_eq_zero (by have:=HLn.out.2.1;omega)
       have h:=HHalf.out R1 B2 HR1.out.1 (by rw [h0,List.nil_append]) HR1.out.2.1 HSt.out.2.2.2
       have h2:=HR1.out.2.2
       rw [h0] at h2
       exact ⟨_,h.1,h.2,by simpa [List.append_assoc] using h2⟩)
      go_wp2
      go_end0
      exact ⟨rfl,HEnd.out⟩
   ·
    have x2:decide (m < en) = false:=decide_eq_false e2
    have HRow2:Hid (SR W g (P ++ (A1 ++ (B1 ++ (A2 ++ (B2 ++ Q))))) wr):=Lib.hid (by
     have:B1 = []:=List.eq_nil_of_length_eq_zero (by have:=HLn.out.2.2.1;omega)
     have h:=HRow.out.1
     rw [this] at h ⊢
     exact h)
    clear HRow
    by_cases e3:a < i
    ·
     have x3:decide (a < i) = true:=decide_eq_true e3
     by_cases e4:i < mid
     ·
      have x4:decide (i < mid) = true:=decide_eq_true e4
      have HC:=Lib.hid (IH.out P A1 B1 (A2 ++ (B2 ++ Q)) a i mid wr (by have h1:=HLn.out.1;have h2:=HLn.out.2.2.1;have h3:=HA.out;omega) (by have:=HLn.out.1;omega) (by have:=HLn.out.2.2.1;omega) (by have:=HTot.out;simp only [List.length_append];omega) HA.out.1 (by have:=HLn.out.1;omega) (by have h2:=HLn.out.2.2.1;omega) HSt.out.1 HSt.out.2.2.1 HSm2.out.1 HRow2.out)
      go_wp2_with fail
      refine HC.out.mono ?_
      rintro e w8 ⟨rfl,R1,hp1,hs1,hS2⟩
      have HR1:=Lib.hid (show R1.Perm (A1 ++ B1)∧Sorted' R1∧SR W g (P ++ (R1 ++ (A2 ++ (B2 ++ Q)))) w8 from ⟨hp1,hs1,hS2⟩)
      clear hp1 hs1 hS2 HRow2 HC
      have HL1:Hid (R1.length = mid - a):=Lib.hid (by rw [HR1.out.1.length_eq,List.length_append,HLn.out.1,HLn.out.2.2.1];omega)
      by_cases e5:mid < en
      ·
       have x5:decide (mid < en) = true:=decide_eq_true e5
       by_cases e6:en < b
       ·
        have x6:decide (en < b) = true:=decide_eq_true e6
        have HC:=Lib.hid (IH.out (P ++ R1) A2 B2 Q mid en b w8 (by have h1:=HLn.out.2.1;have h2:=HLn.out.2.2.2;have h3:=HA.out;omega) (by have:=HLn.out.2.1;omega) (by have:=HLn.out.2.2.2;omega) (by have h0:=HTot.out;have h1:=HL1.out;have h2:=HLn.out;simp only [List.length_append];omega) (by have h1:=HL1.out;have h2:=HA.out.1;rw [List.length_append];omega) (by have:=HLn.out.2.1;omega) (by have h2:=HLn.out.2.2.2;omega) HSt.out.2.1 HSt.out.2.2.2 HSm2.out.2 (by rw [List.append_assoc];exact HR1.out.2.2))
        go_wp2_with fail
        refine HC.out.mono ?_
        rintro e w9 ⟨rfl,R2,hp2,hs2,hS2⟩
        have HEnd:Hid (∃ R,R.Perm (A ++ B)∧Sorted' R∧SR W g (P ++ (R ++ Q)) w9):=Lib.hid ⟨R1 ++ R2,(HHalf.out R1 R2 HR1.out.1 hp2 HR1.out.2.1 hs2).1,(HHalf.out R1 R2 HR1.out.1 hp2 HR1.out.2.1 hs2).2,by simpa [List.append_assoc] using hS2⟩
        clear hp2 hs2 hS2
        go_wp2
        go_end0
        exact ⟨rfl,HEnd.out⟩
       ·
        have x6:decide (en < b) = false:=decide_eq_false e6
        have HEnd:Hid (∃ R,R.Perm (A ++ B)∧Sorted' R∧SR W g (P ++ (R ++ Q)) w8):=Lib.hid (by
         have h0:B2 = []:=List.eq_nil_of_length_eq_zero (by have:=HLn.out.2.2.2;omega)
         have h:=HHalf.out R1 A2 HR1.out.1 (by rw [h0,List.append_nil]) HR1.out.2.1 HSt.out.2.1
         have h2:=HR1.out.2.2
         rw [h0] at h2
         exact ⟨_,h.1,h.2,by simpa [List.append_assoc] using h2⟩)
        go_wp2
        go_end0
        exact ⟨rfl,HEnd.out⟩
      ·
       have x5:decide (mid < en) = false:=decide_eq_false e5
       have HEnd:Hid (∃ R,R.Perm (A ++ B)∧Sorted' R∧SR W g (P ++ (R ++ Q)) w8):=Lib.hid (by
        have h0:A2 = []:=List.eq_nil_of_length_eq_zero (by have:=HLn.out.2.1;omega)
        have h:=HHalf.out R1 B2 HR1.out.1 (by rw [h0,List.nil_append]) HR1.out.2.1 HSt.out.2.2.2
        have h2:=HR1.out.2.2
        rw [h0] at h2
        exact ⟨_,h.1,h.2,by simpa [List.append_assoc] using h2⟩)
       go_wp2
       go_end0
       exact ⟨rfl,HEnd.out⟩
     ·
      have x4:decide (i < mid) = false:=decide_eq_false e4
      have HR1:Hid (A1.Perm (A1 ++ B1)∧Sorted' A1∧SR W g (P ++ (A1 ++ (A2 ++ (B2 ++ Q)))) wr):=Lib.hid (by
       have:B1 = []:=List.eq_nil_of_length_eq_zero (by have:=HLn.out.2.2.1;omega)
       have h:=HRow2.out
       rw [this] at h ⊢
       exact ⟨by rw [List.append_nil],HSt.out.1,h⟩)
      clear HRow2
      obtain ⟨R1,hR1⟩:∃ R1,R1 = A1:=⟨_,rfl⟩
      have HR1:Hid (R1.Perm (A1 ++ B1)∧Sorted' R1∧SR W g (P ++ (R1 ++ (A2 ++ (B2 ++ Q)))) wr):=Lib.hid (by rw [hR1];exact HR1.out)
      clear hR1
      have HL1:Hid (R1.length = mid - a):=Lib.hid (by rw [HR1.out.1.length_eq,List.length_append,HLn.out.1,HLn.out.2.2.1];omega)
      by_cases e5:mid < en
      ·
       have x5:decide (mid < en) = true:=decide_eq_true e5
       by_cases e6:en < b
       ·
        have x6:decide (en < b) = true:=decide_eq_true e6
        have HC:=Lib.hid (IH.out (P ++ R1) A2 B2 Q mid en b wr (by have h1:=HLn.out.2.1;have h2:=HLn.out.2.2.2;have h3:=HA.out;omega) (by have:=HLn.out.2.1;omega) (by have:=HLn.out.2.2.2;omega) (by have h0:=HTot.out;have h1:=HL1.out;have h2:=HLn.out;simp only [List.length_append];omega) (by have h1:=HL1.out;have h2:=HA.out.1;rw [List.length_append];omega) (by have:=HLn.out.2.1;omega) (by have h2:=HLn.out.2.2.2;omega) HSt.out.2.1 HSt.out.2.2.2 HSm2.out.2 (by rw [List.append_assoc];exact HR1.out.2.2))
        go_wp2_with fail
        refine HC.out.mono ?_
        rintro e w9 ⟨rfl,R2,hp2,hs2,hS2⟩
        have HEnd:Hid (∃ R,R.Perm (A ++ B)∧Sorted' R∧SR W g (P ++ (R ++ Q)) w9):=Lib.hid ⟨R1 ++ R2,(HHalf.out R1 R2 HR1.out.1 hp2 HR1.out.2.1 hs2).1,(HHalf.out R1 R2 HR1.out.1 hp2 HR1.out.2.1 hs2).2,by simpa [List.append_assoc] using hS2⟩
        clear hp2 hs2 hS2
        go_wp2
        go_end0
        exact ⟨rfl,HEnd.out⟩
       ·
        have x6:decide (en < b) = false:=decide_eq_false e6
        have HEnd:Hid (∃ R,R.Perm (A ++ B)∧Sorted' R∧SR W g (P ++ (R ++ Q)) wr):=Lib.hid (by
         have h0:B2 = []:=List.eq_nil_of_length_eq_zero (by have:=HLn.out.2.2.2;omega)
         have h:=HHalf.out R1 A2 HR1.out.1 (by rw [h0,List.append_nil]) HR1.out.2.1 HSt.out.2.1
         have h2:=HR1.out.2.2
         rw [h0] at h2
         exact ⟨_,h.1,h.2,by simpa [List.append_assoc] using h2⟩)
        go_wp2
        go_end0
        exact ⟨rfl,HEnd.out⟩
      ·
       have x5:decide (mid < en) = false:=decide_eq_false e5
       have HEnd:Hid (∃ R,R.Perm (A ++ B)∧Sorted' R∧SR W g (P ++ (R ++ Q)) wr):=Lib.hid (by
        have h0:A2 = []:=List.eq_nil_of_length_eq_zero (by have:=HLn.out.2.1;omega)
        have h:=HHalf.out R1 B2 HR1.out.1 (by rw [h0,List.nil_append]) HR1.out.2.1 HSt.out.2.2.2
        have h2:=HR1.out.2.2
        rw [h0] at h2
        exact ⟨_,h.1,h.2,by simpa [List.append_assoc] using h2⟩)
       go_wp2
       go_end0
       exact ⟨rfl,HEnd.out⟩
    ·
     have x3:decide (a < i) = false:=decide_eq_false e3
     have HR1:Hid (B1.Perm (A1 ++ B1)∧Sorted' B1∧SR W g (P ++ (B1 ++ (A2 ++ (B2 ++ Q)))) wr):=Lib.hid (by
      have:A1 = []:=List.eq_nil_of_length_eq_zero (by have:=HLn.out.1;omega)
      have h:=HRow2.out
      rw [this] at h ⊢
      exact ⟨List.Perm.refl _,HSt.out.2.2.1,h⟩)
     clear HRow2
     obtain ⟨R1,hR1⟩:∃ R1,R1 = B1:=⟨_,rfl⟩
     have HR1:Hid (R1.Perm (A1 ++ B1)∧Sorted' R1∧SR W g (P ++ (R1 ++ (A2 ++ (B2 ++ Q)))) wr):=Lib.hid (by rw [hR1];exact HR1.out)
     clear hR1
     have HL1:Hid (R1.length = mid - a):=Lib.hid (by rw [HR1.out.1.length_eq,List.length_append,HLn.out.1,HLn.out.2.2.1];omega)
     by_cases e5:mid < en
     ·
      have x5:decide (mid < en) = true:=decide_eq_true e5
      by_cases e6:en < b
      ·
       have x6:decide (en < b) = true:=decide_eq_true e6
       have HC:=Lib.hid (IH.out (P ++ R1) A2 B2 Q mid en b wr (by have h1:=HLn.out.2.1;have h2:=HLn.out.2.2.2;have h3:=HA.out;omega) (by have:=HLn.out.2.1;omega) (by have:=HLn.out.2.2.2;omega) (by have h0:=HTot.out;have h1:=HL1.out;have h2:=HLn.out;simp only [List.length_append];omega) (by have h1:=HL1.out;have h2:=HA.out.1;rw [List.length_append];omega) (by have:=HLn.out.2.1;omega) (by have h2:=HLn.out.2.2.2;omega) HSt.out.2.1 HSt.out.2.2.2 HSm2.out.2 (by rw [List.append_assoc];exact HR1.out.2.2))
       go_wp2_with fail
       refine HC.out.mono ?_
       rintro e w9 ⟨rfl,R2,hp2,hs2,hS2⟩
       have HEnd:Hid (∃ R,R.Perm (A ++ B)∧Sorted' R∧SR W g (P ++ (R ++ Q)) w9):=Lib.hid ⟨R1 ++ R2,(HHalf.out R1 R2 HR1.out.1 hp2 HR1.out.2.1 hs2).1,(HHalf.out R1 R2 HR1.out.1 hp2 HR1.out.2.1 hs2).2,by simpa [List.append_assoc] using hS2⟩
       clear hp2 hs2 hS2
       go_wp2
       go_end0
       exact ⟨rfl,HEnd.out⟩
      ·
       have x6:decide (en < b) = false:=decide_eq_false e6
       have HEnd:Hid (∃ R,R.Perm (A ++ B)∧Sorted' R∧SR W g (P ++ (R ++ Q)) wr):=Lib.hid (by
        have h0:B2 = []:=List.eq_nil_of_length_eq_zero (by have:=HLn.out.2.2.2;omega)
        have h:=HHalf.out R1 A2 HR1.out.1 (by rw [h0,List.append_nil]) HR1.out.2.1 HSt.out.2.1
        have h2:=HR1.out.2.2
        rw [h0] at h2
        exact ⟨_,h.1,h.2,by simpa [List.append_assoc] using h2⟩)
       go_wp2
       go_end0
       exact ⟨rfl,HEnd.out⟩
     ·
      have x5:decide (mid < en) = false:=decide_eq_false e5
      have HEnd:Hid (∃ R,R.Perm (A ++ B)∧Sorted' R∧SR W g (P ++ (R ++ Q)) wr):=Lib.hid (by
       have h0:A2 = []:=List.eq_nil_of_length_eq_zero (by have:=HLn.out.2.1;omega)
       have h:=HHalf.out R1 B2 HR1.out.1 (by rw [h0,List.nil_append]) HR1.out.2.1 HSt.out.2.2.2
       have h2:=HR1.out.2.2
       rw [h0] at h2
       exact ⟨_,h.1,h.2,by simpa [List.append_assoc] using h2⟩)
      go_wp2
      go_end0
      exact ⟨rfl,HEnd.out⟩
  ·
   have x1:decide (i < m) = false:=decide_eq_false e1
   have HRow2:Hid (SR W g (P ++ (A1 ++ (B1 ++ (A2 ++ (B2 ++ Q))))) wr):=Lib.hid (by
    have:A2 = []:=List.eq_nil_of_length_eq_zero (by have:=HLn.out.2.1;omega)
    have h:=HRow.out.1
    rw [this] at h ⊢
    exact h)
   clear HRow
   by_cases e3:a < i
   ·
    have x3:decide (a < i) = true:=decide_eq_true e3
    by_cases e4:i < mid
    ·
     have x4:decide (i < mid) = true:=decide_eq_true e4
     have HC:=Lib.hid (IH.out P A1 B1 (A2 ++ (B2 ++ Q)) a i mid wr (by have h1:=HLn.out.1;have h2:=HLn.out.2.2.1;have h3:=HA.out;omega) (by have:=HLn.out.1;omega) (by have:=HLn.out.2.2.1;omega) (by have:=HTot.out;simp only [List.length_append];omega) HA.out.1 (by have:=HLn.out.1;omega) (by have h2:=HLn.out.2.2.1;omega) HSt.out.1 HSt.out.2.2.1 HSm2.out.1 HRow2.out)
     go_wp2_with fail
     refine HC.out.mono ?_
     rintro e w8 ⟨rfl,R1,hp1,hs1,hS2⟩
     have HR1:=Lib.hid (show R1.Perm (A1 ++ B1)∧Sorted' R1∧SR W g (P ++ (R1 ++ (A2 ++ (B2 ++ Q)))) w8 from ⟨hp1,hs1,hS2⟩)
     clear hp1 hs1 hS2 HRow2 HC
     have HL1:Hid (R1.length = mid - a):=Lib.hid (by rw [HR1.out.1.length_eq,List.length_append,HLn.out.1,HLn.out.2.2.1];omega)
     by_cases e5:mid < en
     ·
      have x5:decide (mid < en) = true:=decide_eq_true e5
      by_cases e6:en < b
      ·
       have x6:decide (en < b) = true:=decide_eq_true e6
       have HC:=Lib.hid (IH.out (P ++ R1) A2 B2 Q mid en b w8 (by have h1:=HLn.out.2.1;have h2:=HLn.out.2.2.2;have h3:=HA.out;omega) (by have:=HLn.out.2.1;omega) (by have:=HLn.out.2.2.2;omega) (by have h0:=HTot.out;have h1:=HL1.out;have h2:=HLn.out;simp only [List.length_append];omega) (by have h1:=HL1.out;have h2:=HA.out.1;rw [List.length_append];omega) (by have:=HLn.out.2.1;omega) (by have h2:=HLn.out.2.2.2;omega) HSt.out.2.1 HSt.out.2.2.2 HSm2.out.2 (by rw [List.append_assoc];exact HR1.out.2.2))
       go_wp2_with fail
       refine HC.out.mono ?_
       rintro e w9 ⟨rfl,R2,hp2,hs2,hS2⟩
       have HEnd:Hid (∃ R,R.Perm (A ++ B)∧Sorted' R∧SR W g (P ++ (R ++ Q)) w9):=Lib.hid ⟨R1 ++ R2,(HHalf.out R1 R2 HR1.out.1 hp2 HR1.out.2.1 hs2).1,(HHalf.out R1 R2 HR1.out.1 hp2 HR1.out.2.1 hs2).2,by simpa [List.append_assoc] using hS2⟩
       clear hp2 hs2 hS2
       go_wp2
       go_end0
       exact ⟨rfl,HEnd.out⟩
      ·
       have x6:decide (en < b) = false:=decide_eq_false e6
       have HEnd:Hid (∃ R,R.Perm (A ++ B)∧Sorted' R∧SR W g (P ++ (R ++ Q)) w8):=Lib.hid (by
        have h0:B2 = []:=List.eq_nil_of_length_eq_zero (by have:=HLn.out.2.2.2;omega)
        have h:=HHalf.out R1 A2 HR1.out.1 (by rw [h0,List.append_nil]) HR1.out.2.1 HSt.out.2.1
        have h2:=HR1.out.2.2
        rw [h0] at h2
        exact ⟨_,h.1,h.2,by simpa [List.append_assoc] using h2⟩)
       go_wp2
       go_end0
       exact ⟨rfl,HEnd.out⟩
     ·
      have x5:decide (mid < en) = false:=decide_eq_false e5
      have HEnd:Hid (∃ R,R.Perm (A ++ B)∧Sorted' R∧SR W g (P ++ (R ++ Q)) w8):=Lib.hid (by
       have h0:A2 = []:=List.eq_nil_of_length_eq_zero (by have:=HLn.out.2.1;omega)
       have h:=HHalf.out R1 B2 HR1.out.1 (by rw [h0,List.nil_append]) HR1.out.2.1 HSt.out.2.2.2
       have h2:=HR1.out.2.2
       rw [h0] at h2
       exact ⟨_,h.1,h.2,by simpa [List.append_assoc] using h2⟩)
      go_wp2
      go_end0
      exact ⟨rfl,HEnd.out⟩
    ·
     have x4:decide (i < mid) = false:=decide_eq_false e4
     have HR1:Hid (A1.Perm (A1 ++ B1)∧Sorted' A1∧SR W g (P ++ (A1 ++ (A2 ++ (B2 ++ Q)))) wr):=Lib.hid (by
      have:B1 = []:=List.eq_nil_of_length_eq_zero (by have:=HLn.out.2.2.1;omega)
      have h:=HRow2.out
      rw [this] at h ⊢
      exact ⟨by rw [List.append_nil],HSt.out.1,h⟩)
     clear HRow2
     obtain ⟨R1,hR1⟩:∃ R1,R1 = A1:=⟨_,rfl⟩
     have HR1:Hid (R1.Perm (A1 ++ B1)∧Sorted' R1∧SR W g (P ++ (R1 ++ (A2 ++ (B2 ++ Q)))) wr):=Lib.hid (by rw [hR1];exact HR1.out)
     clear hR1
     have HL1:Hid (R1.length = mid - a):=Lib.hid (by rw [HR1.out.1.length_eq,List.length_append,HLn.out.1,HLn.out.2.2.1];omega)
     by_cases e5:mid < en
     ·
      have x5:decide (mid < en) = true:=decide_eq_true e5
      by_cases e6:en < b
      ·
       have x6:decide (en < b) = true:=decide_eq_true e6
       have HC:=Lib.hid (IH.out (P ++ R1) A2 B2 Q mid en b wr (by have h1:=HLn.out.2.1;have h2:=HLn.out.2.2.2;have h3:=HA.out;omega) (by have:=HLn.out.2.1;omega) (by have:=HLn.out.2.2.2;omega) (by have h0:=HTot.out;have h1:=HL1.out;have h2:=HLn.out;simp only [List.length_append];omega) (by have h1:=HL1.out;have h2:=HA.out.1;rw [List.length_append];omega) (by have:=HLn.out.2.1;omega) (by have h2:=HLn.out.2.2.2;omega) HSt.out.2.1 HSt.out.2.2.2 HSm2.out.2 (by rw [List.append_assoc];exact HR1.out.2.2))
       go_wp2_with fail
       refine HC.out.mono ?_
       rintro e w9 ⟨rfl,R2,hp2,hs2,hS2⟩
       have HEnd:Hid (∃ R,R.Perm (A ++ B)∧Sorted' R∧SR W g (P ++ (R ++ Q)) w9):=Lib.hid ⟨R1 ++ R2,(HHalf.out R1 R2 HR1.out.1 hp2 HR1.out.2.1 hs2).1,(HHalf.out R1 R2 HR1.out.1 hp2 HR1.out.2.1 hs2).2,by simpa [List.append_assoc] using hS2⟩
       clear hp2 hs2 hS2
       go_wp2
       go_end0
       exact ⟨rfl,HEnd.out⟩
      ·
       have x6:decide (en < b) = false:=decide_eq_false e6
       have HEnd:Hid (∃ R,R.Perm (A ++ B)∧Sorted' R∧SR W g (P ++ (R ++ Q)) wr):=Lib.hid (by
        have h0:B2 = []:=List.eq_nil_of_length_eq_zero (by have:=HLn.out.2.2.2;omega)
        have h:=HHalf.out R1 A2 HR1.out.1 (by rw [h0,List.append_nil]) HR1.out.2.1 HSt.out.2.1
        have h2:=HR1.out.2.2
        rw [h0] at h2
        exact ⟨_,h.1,h.2,by simpa [List.append_assoc] using h2⟩)
       go_wp2
       go_end0
       exact ⟨rfl,HEnd.out⟩
     ·
      have x5:decide (mid < en) = false:=decide_eq_false e5
      have HEnd:Hid (∃ R,R.Perm (A ++ B)∧Sorted' R∧SR W g (P ++ (R ++ Q)) wr):=Lib.hid (by
       have h0:A2 = []:=List.eq_nil_of_length_eq_zero (by have:=HLn.out.2.1;omega)
       have h:=HHalf.out R1 B2 HR1.out.1 (by rw [h0,List.nil_append]) HR1.out.2.1 HSt.out.2.2.2
       have h2:=HR1.out.2.2
       rw [h0] at h2
       exact ⟨_,h.1,h.2,by simpa [List.append_assoc] using h2⟩)
      go_wp2
      go_end0
      exact ⟨rfl,HEnd.out⟩
   ·
    have x3:decide (a < i) = false:=decide_eq_false e3
    have HR1:Hid (B1.Perm (A1 ++ B1)∧Sorted' B1∧SR W g (P ++ (B1 ++ (A2 ++ (B2 ++ Q)))) wr):=Lib.hid (by
     have:A1 = []:=List.eq_nil_of_length_eq_zero (by have:=HLn.out.1;omega)
     have h:=HRow2.out
     rw [this] at h ⊢
     exact ⟨List.Perm.refl _,HSt.out.2.2.1,h⟩)
    clear HRow2
    obtain ⟨R1,hR1⟩:∃ R1,R1 = B1:=⟨_,rfl⟩
    have HR1:Hid (R1.Perm (A1 ++ B1)∧Sorted' R1∧SR W g (P ++ (R1 ++ (A2 ++ (B2 ++ Q)))) wr):=Lib.hid (by rw [hR1];exact HR1.out)
    clear hR1
    have HL1:Hid (R1.length = mid - a):=Lib.hid (by rw [HR1.out.1.length_eq,List.length_append,HLn.out.1,HLn.out.2.2.1];omega)
    by_cases e5:mid < en
    ·
     have x5:decide (mid < en) = true:=decide_eq_true e5
     by_cases e6:en < b
     ·
      have x6:decide (en < b) = true:=decide_eq_true e6
      have HC:=Lib.hid (IH.out (P ++ R1) A2 B2 Q mid en b wr (by have h1:=HLn.out.2.1;have h2:=HLn.out.2.2.2;have h3:=HA.out;omega) (by have:=HLn.out.2.1;omega) (by have:=HLn.out.2.2.2;omega) (by have h0:=HTot.out;have h1:=HL1.out;have h2:=HLn.out;simp only [List.length_append];omega) (by have h1:=HL1.out;have h2:=HA.out.1;rw [List.length_append];omega) (by have:=HLn.out.2.1;omega) (by have h2:=HLn.out.2.2.2;omega) HSt.out.2.1 HSt.out.2.2.2 HSm2.out.2 (by rw [List.append_assoc];exact HR1.out.2.2))
      go_wp2_with fail
      refine HC.out.mono ?_
      rintro e w9 ⟨rfl,R2,hp2,hs2,hS2⟩
      have HEnd:Hid (∃ R,R.Perm (A ++ B)∧Sorted' R∧SR W g (P ++ (R ++ Q)) w9):=Lib.hid ⟨R1 ++ R2,(HHalf.out R1 R2 HR1.out.1 hp2 HR1.out.2.1 hs2).1,(HHalf.out R1 R2 HR1.out.1 hp2 HR1.out.2.1 hs2).2,by simpa [List.append_assoc] using hS2⟩
      clear hp2 hs2 hS2
      go_wp2
      go_end0
      exact ⟨rfl,HEnd.out⟩
     ·
      have x6:decide (en < b) = false:=decide_eq_false e6
      have HEnd:Hid (∃ R,R.Perm (A ++ B)∧Sorted' R∧SR W g (P ++ (R ++ Q)) wr):=Lib.hid (by
       have h0:B2 = []:=List.eq_nil_of_length_eq_zero (by have:=HLn.out.2.2.2;omega)
       have h:=HHalf.out R1 A2 HR1.out.1 (by rw [h0,List.append_nil]) HR1.out.2.1 HSt.out.2.1
       have h2:=HR1.out.2.2
       rw [h0] at h2
       exact ⟨_,h.1,h.2,by simpa [List.append_assoc] using h2⟩)
      go_wp2
      go_end0
      exact ⟨rfl,HEnd.out⟩
    ·
     have x5:decide (mid < en) = false:=decide_eq_false e5
     have HEnd:Hid (∃ R,R.Perm (A ++ B)∧Sorted' R∧SR W g (P ++ (R ++ Q)) wr):=Lib.hid (by
      have h0:A2 = []:=List.eq_nil_of_length_eq_zero (by have:=HLn.out.2.1;omega)
      have h:=HHalf.out R1 B2 HR1.out.1 (by rw [h0,List.nil_append]) HR1.out.2.1 HSt.out.2.2.2
      have h2:=HR1.out.2.2
      rw [h0] at h2
      exact ⟨_,h.1,h.2,by simpa [List.append_assoc] using h2⟩)
     go_wp2
     go_end0
     exact ⟨rfl,HEnd.out⟩
end Go.Proofs.YtnplommdgfgboaaGreatDoor.SortW
namespace Go.Proofs.YtnplommdgfgboaaGreatDoor.SortW
open Go.RowKit Go.Lib B Rd Utf TermPure LinesPure Tx Env Tri SortP Print Cmp Long
theorem sym_calls (L cap:Nat) (hLs:L ≤ 140737488355328) (g:Nat) (W:World):∀ N:Nat,SymC L cap g W N
 | 0=>fun P A B Q a m b w hN hA0 hB0 _ _ _ _ _ _ _ _=>by omega
 | N + 1=>fun P A B Q a m b w hN hA0 hB0 hL ha hm hb hA hB hsm hS=>by
  by_cases c1:A.length = 1
  ·
   obtain ⟨x,rfl⟩:∃ x,A = [x]:=List.length_eq_one_iff.1 c1
   exact sym_left P B Q x L hL hLs a m b cap ha hm hb hB (hsm x (by simp)) (fun t ht=>hsm t (by simp [ht])) g W w hS
  by_cases c2:B.length = 1
  ·
   obtain ⟨y,rfl⟩:∃ y,B = [y]:=List.length_eq_one_iff.1 c2
   exact sym_right P A Q y L hL hLs a m b cap ha hm hb (by omega) hA (hsm y (by simp)) (fun t ht=>hsm t (by simp [ht])) g W w hS
  by_cases hc:(a + b) / 2 < m
  ·
   exact sym_gen1 L cap hLs g W N (sym_calls L cap hLs g W N) P A B Q a m b w hN hA0 hB0 hL ha hm hb hA hB hsm hS c1 c2 hc
  ·
   exact sym_gen2 L cap hLs g W N (sym_calls L cap hLs g W N) P A B Q a m b w hN hA0 hB0 hL ha hm hb hA hB hsm hS c1 c2 (by omega)
end Go.Proofs.YtnplommdgfgboaaGreatDoor.SortW
namespace Go.Proofs.YtnplommdgfgboaaGreatDoor.SortW
open Go.RowKit Go.Lib B Rd Utf TermPure LinesPure Tx Env Tri SortP Print Cmp Long
def Ch (bs:Nat) (C:List (List Triple)):Prop:=∀ c ∈ C,c.length = bs∧Sorted' c
theorem Ch.flat {bs:Nat}:∀ {C:List (List Triple)},Ch bs C → C.flatten.length = C.length * bs
 | [],_=>by simp
 | c :: C,h=>by
  rw [List.flatten_cons,List.length_append,(h c (by simp)).1,Ch.flat (fun d hd=>h d (by simp [hd])),List.length_cons,Nat.add_mul]
  omega
theorem Ch.snoc {bs:Nat} {C:List (List Triple)} {c:List Triple} (h:Ch bs C) (hl:c.length = bs) (hs:Sorted' c):Ch bs (C ++ [c]):=fun d hd=>by
 rcases List.mem_append.1 hd with hd | hd
 ·
  exact h d hd
 ·
  simp at hd
  subst hd
  exact ⟨hl,hs⟩
theorem flat_snoc (C:List (List Triple)) (R:List Triple):(C ++ [R]).flatten.length = C.flatten.length + R.length:=by
 rw [List.flatten_append,List.length_append,List.flatten_cons,List.flatten_nil,List.append_nil]
theorem perm_mid {P A A' Q l:List Triple} (h:(P ++ (A ++ Q)).Perm l) (h2:A'.Perm A):(P ++ (A' ++ Q)).Perm l:=
 (List.Perm.append_left P (List.Perm.append_right Q h2)).trans h
set_option maxHeartbeats 25600000 in
set_option maxRecDepth 100000 in
theorem stable_calls (l:List Triple) (L cap:Nat) (hL:l.length = L) (hLs:L ≤ 70368744177664) (hsm:∀ t ∈ l,SmallT t) (g:Nat) (W w:World) (hS:SR W g l w) :
  Calls Tryz.prog 152 #[.slice (some ⟨g,0,none⟩) L cap,.int .i64 L,cmpV] w fun e w'=>e = .returned (.tuple #[])∧∃ R,R.Perm l∧Sorted' R∧SR W g R w':=by
 have HSm:Hid (∀ R:List Triple,R.Perm l → ∀ A:List Triple,(∀ t ∈ A,t ∈ R) → ∀ t ∈ A,SmallT t):=Lib.hid (fun R hR A hA t ht=>hsm t (hR.mem_iff.1 (hA t ht)))
 have HL:Hid (∀ R:List Triple,R.Perm l → R.length = L):=Lib.hid (fun R hR=>hR.length_eq.trans hL)
 have HS0:=Lib.hid hS
 clear hsm hL hS
 unfold cmpV
 go_enter Tryz.func152,Tryz.ntmps152
 go_wp2
 go_loopw [7,8] (fun va vb wr=>∃ (a b:Nat) (C:List (List Triple)) (T:List Triple),va = .int .i64 a∧vb = .int .i64 b∧a ≤ L∧b ≤ L + 20∧Hid (b = a + 20∧C.flatten.length = a∧Ch 20 C∧(C.flatten ++ T).Perm l∧SR W g (C.flatten ++ T) wr)) (fun va _ _=>L - (intOf va).toNat)
 case atStart=>exact ⟨0,20,[],l,rfl,rfl,by omega,by omega,Lib.hid ⟨rfl,rfl,fun c hc=>(by cases hc),by simp,by simpa using HS0.out⟩⟩
 case round =>
  obtain ⟨a,b,C,T,rfl,rfl,haL,hbL,HR⟩:=hrel
  clear HS0
  by_cases hlt:b ≤ L
  ·
   have hd:decide (b ≤ L) = true:=decide_eq_true hlt
   have hlen:=HL.out _ HR.out.2.2.2.1
   rw [List.length_append,HR.out.2.1] at hlen
   have hab:a < b:=by have:=HR.out.1;omega
   have HC:=Lib.hid (insertion_calls C.flatten (T.take 20) (T.drop 20) L (by rw [List.take_append_drop];exact HL.out _ HR.out.2.2.2.1) (by omega) a b cap HR.out.2.1.symm (by rw [List.length_take];have:=HR.out.1;omega) (HSm.out _ HR.out.2.2.2.1 _ (fun t ht=>List.mem_append_right _ (List.mem_of_mem_take ht))) g W wr (by rw [List.take_append_drop];exact HR.out.2.2.2.2))
   have HNext:Hid (∀ R:List Triple,R.Perm (T.take 20) → Sorted' R → (C ++ [R]).flatten.length = b∧Ch 20 (C ++ [R])∧((C ++ [R]).flatten ++ T.drop 20).Perm l∧(C ++ [R]).flatten ++ T.drop 20 = C.flatten ++ (R ++ T.drop 20)):=Lib.hid (fun R hp hs=>by
    have hRl:R.length = 20:=by rw [hp.length_eq,List.length_take];have:=HR.out.1;omega
    have he:(C ++ [R]).flatten ++ T.drop 20 = C.flatten ++ (R ++ T.drop 20):=by simp
    refine ⟨?_,HR.out.2.2.1.snoc hRl hs,?_,he⟩
    ·
     have:=HR.out.1;have:=HR.out.2.1;rw [flat_snoc];omega
    ·
     rw [he]
     refine perm_mid ?_ hp
     rw [List.take_append_drop]
     exact HR.out.2.2.2.1)
   clear hlen HR
   unfold cmpV at HC
   go_wp2_with fail
   refine HC.out.mono ?_
   rintro e w2 ⟨rfl,R,hp,hs,hS2⟩
   have HN:Hid ((C ++ [R]).flatten.length = b∧Ch 20 (C ++ [R])∧((C ++ [R]).flatten ++ T.drop 20).Perm l∧SR W g ((C ++ [R]).flatten ++ T.drop 20) w2):=Lib.hid (by
    obtain ⟨h2,h3,h4,h5⟩:=HNext.out R hp hs
    exact ⟨h2,h3,h4,by rw [h5];exact hS2⟩)
   clear hp hs hS2
   go_wp2
   go_roundw
   case rel=>exact ⟨b,b + 20,C ++ [R],T.drop 20,rfl,by go_num,by omega,by omega,Lib.hid ⟨rfl,HN.out⟩⟩
   case measure=>simp [intOf];omega
  ·
   have hd:decide (b ≤ L) = false:=decide_eq_false hlt
   have hlen:=HL.out _ HR.out.2.2.2.1
   rw [List.length_append,HR.out.2.1] at hlen
   have HC:=Lib.hid (insertion_calls C.flatten T [] L (by rw [List.append_nil];exact HL.out _ HR.out.2.2.2.1) (by omega) a L cap HR.out.2.1.symm (by omega) (HSm.out _ HR.out.2.2.2.1 _ (fun t ht=>List.mem_append_right _ ht)) g W wr (by rw [List.append_nil];exact HR.out.2.2.2.2))
   have HNext:Hid (∀ R:List Triple,R.Perm T → Sorted' R → R.length < 20∧Ch 20 C∧Sorted' R∧(C.flatten ++ R).Perm l):=Lib.hid (fun R hp hs=>by
    refine ⟨by rw [hp.length_eq];have:=HR.out.1;omega,HR.out.2.2.1,hs,?_⟩
    exact (List.Perm.append_left _ hp).trans HR.out.2.2.2.1)
   clear hlen HR
   unfold cmpV at HC
   go_wp2_with fail
   refine HC.out.mono ?_
   rintro e w2 ⟨rfl,R0,hp,hs,hS2⟩
   have HN:Hid (R0.length < 20∧Ch 20 C∧Sorted' R0∧(C.flatten ++ R0).Perm l∧SR W g (C.flatten ++ R0) w2):=Lib.hid (by
    obtain ⟨h1,h2,h3,h4⟩:=HNext.out R0 hp hs
    exact ⟨h1,h2,h3,h4,by rw [List.append_nil] at hS2;exact hS2⟩)
   clear hp hs hS2 HNext
   go_wp2
   go_loopw [6] (fun v6 wr=>∃ (bs:Nat) (C:List (List Triple)) (T:List Triple),v6 = .int .i64 bs∧0 < bs∧bs ≤ 140737488355328∧Hid (T.length < bs∧Ch bs C∧Sorted' T∧(C.flatten ++ T).Perm l∧SR W g (C.flatten ++ T) wr)) (fun v6 _=>L - (intOf v6).toNat)
   case atStart=>exact ⟨20,C,R0,rfl,by omega,by omega,HN⟩
   case round =>
    obtain ⟨bs,C1,T1,rfl,hbs,hbsL,HR⟩:=hrel
    clear HN
    by_cases hbl:bs < L
    ·
     have hd2:decide (bs < L) = true:=decide_eq_true hbl
     obtain ⟨b2,hb2⟩:∃ b2,b2 = 2 * bs:=⟨_,rfl⟩
     have wb2:IntKind.i64.wrap (2 * (bs:Int)) = (b2:Int):=by rw [IntKind.wrap_i64];omega
     have wb3:IntKind.i64.wrap ((bs:Int) * 2) = (b2:Int):=by rw [IntKind.wrap_i64];omega
     have HB2:=Lib.hid hb2
     have hb2L:b2 ≤ 140737488355328:=by omega
     have hbb:bs < b2:=by omega
     have HI0:Hid (b2 = 0 + b2∧([]:List (List Triple)).flatten.length = 0∧Ch b2 []∧Ch bs C1∧(([]:List (List Triple)).flatten ++ (C1.flatten ++ T1)).Perm l∧SR W g (([]:List (List Triple)).flatten ++ (C1.flatten ++ T1)) wr):=Lib.hid ⟨by omega,rfl,fun c hc=>(by cases hc),HR.out.2.1,by simpa using HR.out.2.2.2.1,by simpa using HR.out.2.2.2.2⟩
     have HT:Hid (T1.length < bs∧Sorted' T1):=Lib.hid ⟨HR.out.1,HR.out.2.2.1⟩
     clear hb2 HR
     go_wp2
     go_loopw [7,8] (fun va vb wr=>∃ (a b:Nat) (D C':List (List Triple)),va = .int .i64 a∧vb = .int .i64 b∧a ≤ L∧b ≤ L + b2∧Hid (b = a + b2∧D.flatten.length = a∧Ch b2 D∧Ch bs C'∧(D.flatten ++ (C'.flatten ++ T1)).Perm l∧SR W g (D.flatten ++ (C'.flatten ++ T1)) wr)) (fun va _ _=>L - (intOf va).toNat)
     case atStart=>exact ⟨0,b2,[],C1,rfl,rfl,by omega,by omega,HI0⟩
     case round =>
      obtain ⟨a,b,D,C',rfl,rfl,haL,hbL,HR⟩:=hrel
      clear HI0
      have hlen:=HL.out _ HR.out.2.2.2.2.1
      rw [List.length_append,List.length_append,HR.out.2.1,HR.out.2.2.2.1.flat] at hlen
      by_cases hle:b ≤ L
      ·
       have hd3:decide (b ≤ L) = true:=decide_eq_true hle
       obtain ⟨c1,c2,C2,hC2⟩:∃ c1 c2 C2,C' = c1 :: c2 :: C2:=by
        have h1:=HR.out.1
        have h2:=HT.out.1
        have h3:=HB2.out
        match C' with
        | []=>simp at hlen;omega
        | [c]=>simp at hlen;omega
        | c1 :: c2 :: C2=>exact ⟨c1,c2,C2,rfl⟩
       subst hC2
       have hc1:=HR.out.2.2.2.1 c1 (by simp)
       have hc2:=HR.out.2.2.2.1 c2 (by simp)
       obtain ⟨m1,hm1⟩:∃ m1,m1 = a + bs:=⟨_,rfl⟩
       have wm:IntKind.i64.wrap ((a:Int) + (bs:Int)) = (m1:Int):=by rw [IntKind.wrap_i64];omega
       have hab:a < b:=by have:=HR.out.1;omega
       have wbn:IntKind.i64.wrap ((b:Int) + (b2:Int)) = ((b + b2:Nat):Int):=by rw [IntKind.wrap_i64];omega
       have he:D.flatten ++ ((c1 :: c2 :: C2).flatten ++ T1) = D.flatten ++ (c1 ++ (c2 ++ (C2.flatten ++ T1))):=by simp
       have HP:Hid ((D.flatten ++ (c1 ++ (c2 ++ (C2.flatten ++ T1)))).Perm l∧SR W g (D.flatten ++ (c1 ++ (c2 ++ (C2.flatten ++ T1)))) wr):=Lib.hid (by rw [← he];exact HR.out.2.2.2.2)
       have HC:=Lib.hid (sym_calls L cap (by omega) g W (c1.length + c2.length) D.flatten c1 c2 (C2.flatten ++ T1) a m1 b wr (Nat.le_refl _) (by omega) (by omega) (HL.out _ HP.out.1) HR.out.2.1.symm (by omega) (by have:=HR.out.1;have:=HB2.out;omega) hc1.2 hc2.2 (HSm.out _ HP.out.1 _ (fun t ht=>by rcases List.mem_append.1 ht with h | h <;> simp [h])) HP.out.2)
       have HNext:Hid (∀ R:List Triple,R.Perm (c1 ++ c2) → Sorted' R → ∀ w2,SR W g (D.flatten ++ (R ++ (C2.flatten ++ T1))) w2 → ((D ++ [R]).flatten.length = b∧Ch b2 (D ++ [R])∧Ch bs C2∧((D ++ [R]).flatten ++ (C2.flatten ++ T1)).Perm l∧SR W g ((D ++ [R]).flatten ++ (C2.flatten ++ T1)) w2)):=Lib.hid (fun R hp hs w2 hw2=>by
        have hRl:R.length = b2:=by rw [hp.length_eq,List.length_append,hc1.1,hc2.1];have:=HB2.out;omega
        have he2:(D ++ [R]).flatten ++ (C2.flatten ++ T1) = D.flatten ++ (R ++ (C2.flatten ++ T1)):=by simp
        refine ⟨?_,HR.out.2.2.1.snoc hRl hs,fun c hc=>HR.out.2.2.2.1 c (by simp [hc]),?_,by rw [he2];exact hw2⟩
        ·
         have:=HR.out.1;have:=HR.out.2.1;rw [flat_snoc];omega
        ·
         rw [he2]
         refine perm_mid ?_ hp
         rw [List.append_assoc]
         exact HP.out.1)
       clear hlen HR hc1 hc2 hm1 he HP
       unfold cmpV at HC
       go_wp2_with fail
       refine HC.out.mono ?_
       rintro e w3 ⟨rfl,R,hp,hs,hS2⟩
       have HN:=Lib.hid (HNext.out R hp hs w3 hS2)
       clear hp hs hS2 HNext
       go_wp2
       go_roundw
       case rel=>exact ⟨b,b + b2,D ++ [R],C2,rfl,by go_num,by omega,by omega,Lib.hid ⟨rfl,HN.out⟩⟩
       case measure=>simp [intOf];omega
      ·
       have hd3:decide (b ≤ L) = false:=decide_eq_false hle
       obtain ⟨m1,hm1⟩:∃ m1,m1 = a + bs:=⟨_,rfl⟩
       have wm:IntKind.i64.wrap ((a:Int) + (bs:Int)) = (m1:Int):=by rw [IntKind.wrap_i64];omega
       have hC2:C' = [] ∨ ∃ c,C' = [c]:=by
        have h1:=HR.out.1
        have h3:=HB2.out
        match C' with
        | []=>exact .inl rfl
        | [c]=>exact .inr ⟨c,rfl⟩
        | c1 :: c2 :: C2 =>
         simp [Nat.add_mul] at hlen
         omega
       by_cases hml:m1 < L
       ·
        have hd4:decide (m1 < L) = true:=decide_eq_true hml
        obtain ⟨c,rfl⟩:∃ c,C' = [c]:=by
         rcases hC2 with rfl | h
         ·
          have h2:=HT.out.1
          simp at hlen
          omega
         ·
          exact h
        have hc:=HR.out.2.2.2.1 c (by simp)
        simp at hlen
        have he:D.flatten ++ ([c].flatten ++ T1) = D.flatten ++ (c ++ (T1 ++ [])):=by simp
        have HP:Hid ((D.flatten ++ (c ++ (T1 ++ []))).Perm l∧SR W g (D.flatten ++ (c ++ (T1 ++ []))) wr):=Lib.hid (by rw [← he];exact HR.out.2.2.2.2)
        have HC:=Lib.hid (sym_calls L cap (by omega) g W (c.length + T1.length) D.flatten c T1 [] a m1 L wr (Nat.le_refl _) (by omega) (by omega) (HL.out _ HP.out.1) HR.out.2.1.symm (by omega) (by omega) hc.2 HT.out.2 (HSm.out _ HP.out.1 _ (fun t ht=>by rcases List.mem_append.1 ht with h | h <;> simp [h])) HP.out.2)
        have HNext:Hid (∀ R:List Triple,R.Perm (c ++ T1) → Sorted' R → ∀ w2,SR W g (D.flatten ++ (R ++ [])) w2 → (R.length < b2∧Ch b2 D∧Sorted' R∧(D.flatten ++ R).Perm l∧SR W g (D.flatten ++ R) w2)):=Lib.hid (fun R hp hs w2 hw2=>by
         refine ⟨by rw [hp.length_eq,List.length_append,hc.1];have:=HB2.out;have:=HT.out.1;omega,HR.out.2.2.1,hs,?_,by simpa using hw2⟩
         have:=HP.out.1
         rw [List.append_nil] at this
         exact (List.Perm.append_left _ hp).trans this)
        clear hlen HR hc hm1 he HP hC2
        unfold cmpV at HC
        go_wp2_with fail
        refine HC.out.mono ?_
        rintro e w3 ⟨rfl,R,hp,hs,hS2⟩
        have HN:=Lib.hid (HNext.out R hp hs w3 hS2)
        clear hp hs hS2 HNext
        go_wp2
        refine ⟨⟨b2,D,R,by go_num,by omega,by omega,HN⟩,?_⟩
        simp [intOf];omega
       ·
        have hd4:decide (m1 < L) = false:=decide_eq_false hml
        have HN:Hid (∃ T,T.length < b2∧Ch b2 D∧Sorted' T∧(D.flatten ++ T).Perm l∧SR W g (D.flatten ++ T) wr):=Lib.hid (by
         have h2:=HT.out.1
         rcases hC2 with rfl | ⟨c,rfl⟩
         ·
          exact ⟨T1,by omega,HR.out.2.2.1,HT.out.2,by simpa using HR.out.2.2.2.2.1,by simpa using HR.out.2.2.2.2.2⟩
         ·
          have hc:=HR.out.2.2.2.1 c (by simp)
          simp at hlen
          have h0:T1 = []:=List.eq_nil_of_length_eq_zero (by omega)
          have h1:=HR.out.2.2.2.2.1
          have h3:=HR.out.2.2.2.2.2
          rw [h0] at h1 h3
          exact ⟨c,by omega,HR.out.2.2.1,hc.2,by simpa using h1,by simpa using h3⟩)
        clear hlen HR hm1 hC2
        obtain ⟨T,hT⟩:=HN.out
        have HN2:=Lib.hid hT
        clear hT HN
        go_wp2
        refine ⟨⟨b2,D,T,by go_num,by omega,by omega,HN2⟩,?_⟩
        simp [intOf];omega
    ·
     have hd2:decide (bs < L) = false:=decide_eq_false hbl
     have HV:Hid (∃ R,R.Perm l∧Sorted' R∧SR W g R wr):=Lib.hid (by
      obtain ⟨h1,h2,h3,h4,h5⟩:=HR.out
      have hlen:=HL.out _ h4
      rw [List.length_append,h2.flat] at hlen
      match C1,h2,h4,h5,hlen with
      | [],_,h4,h5,_=>exact ⟨T1,by simpa using h4,h3,by simpa using h5⟩
      | [c],h2,h4,h5,hlen =>
       simp at hlen
       have h0:T1 = []:=List.eq_nil_of_length_eq_zero (by omega)
       rw [h0] at h4 h5
       exact ⟨c,by simpa using h4,(h2 c (by simp)).2,by simpa using h5⟩
      | c1 :: c2 :: C2,_,_,_,hlen =>
       simp [Nat.add_mul] at hlen
       omega)
     clear HR
     go_wp2
     go_end0
     exact ⟨rfl,HV.out⟩
theorem sortStable_calls (l:List Triple) (L cap:Nat) (hL:l.length = L) (hLs:L ≤ 70368744177664) (hsm:∀ t ∈ l,SmallT t) (g:Nat) (W w:World) (hS:SR W g l w) :
  Calls Tryz.prog 118 #[.slice (some ⟨g,0,none⟩) L cap,cmpV] w fun e w'=>e = .returned (.tuple #[])∧∃ R,R.Perm l∧Sorted' R∧SR W g R w':=by
 have HC:=Lib.hid (stable_calls l L cap hL hLs hsm g W w hS)
 clear hL hsm hS
 unfold cmpV at *
 go_enter Tryz.func118,Tryz.ntmps118
 go_wp2_with fail
 refine HC.out.mono ?_
 rintro e w2 ⟨rfl,hR⟩
 have HR:=Lib.hid hR
 clear hR
 go_wp2
 go_end0
 exact ⟨rfl,HR.out⟩
end Go.Proofs.YtnplommdgfgboaaGreatDoor.SortW
namespace Go.Proofs.YtnplommdgfgboaaGreatDoor.SortW
open Go.RowKit Go.Lib B Rd Utf TermPure LinesPure Tx Env Tri SortP Print Cmp Long
def zeroV:Value:=.agg #[.int .i64 0,.string ⟨#[]⟩,.string ⟨#[]⟩,.int .i64 0,.string ⟨#[]⟩,.string ⟨#[]⟩,.int .i64 0,.string ⟨#[]⟩,.string ⟨#[]⟩]
theorem info_tri:(Tryz.prog.info? 36).map (fun i=>(i.zero,i.size,i.bytes)) = some (some zeroV,triK.sz,120):=by kernel_rfl
theorem any_tri:∀ (w:World) (ok ok':Nat → Prop) (x:Triple) (cs:List Value),triK.M w ok x cs → triK.M w ok' x cs:=fun _ _ _ _ _ h=>h
def TT:Nat → Prop:=fun _=>True
theorem SR.of_own {w:World} {base:Nat} {ok:Nat → Prop} {v:Value} {l:List Triple} (h:triK.own 36 w base ok v l) (hp:0 < l.length) :
  ∃ g cap,v = .slice (some ⟨g,0,none⟩) l.length cap∧base ≤ g∧g < w.heap.size∧l.length ≤ cap∧SR w g l w:=by
 obtain ⟨_,cells,ho,hr⟩:=h
 have ho':=ho
 rcases ho'.2 with ⟨_,h0⟩ | ⟨g,cap,cur,rfl,hg,hh,hnc,hcm,hcs,htake⟩
 ·
  omega
 ·
  have hlt:g < w.heap.size:=(Array.getElem?_eq_some_iff.1 hh).1
  refine ⟨g,cap,rfl,hg,hlt,hnc,World.grownBy.refl _ _,fun i hi=>?_,fun j hj=>?_⟩
  ·
   obtain ⟨hc,_⟩:=hr i l[i] (List.getElem?_eq_getElem hi)
   refine C9.of fun j u hu=>?_
   rw [← hc] at hu
   have:=ho.cells rfl _ _ (Kd.take_drop_get hu)
   rw [add_plain] at this
   exact this
  ·
   unfold World.frozen?
   dsimp only
   rw [hh]
   simp
theorem SR.own {W w:World} {g cap:Nat} {l:List Triple} (h:SR W g l w) (hp:0 < l.length) (hf:∀ t ∈ l,FitsW3 t) (hl:l.length ≤ 140737488355328) (hc:l.length ≤ cap) (hcm:cap ≤ maxLen) (ok:Nat → Prop) (hok:ok g) :
  triK.sl.M w ok l [.slice (some ⟨g,0,none⟩) l.length cap]:=by
 refine ⟨some ⟨g,0,none⟩,cap,rfl,hc,⟨hl,hcm⟩,fun h=>(by cases h),fun i x hx=>?_⟩
 obtain ⟨hi,rfl⟩:=List.getElem?_eq_some_iff.1 hx
 refine ⟨_,triL l[i],rfl,hok,⟨rfl,hf _ (List.getElem_mem hi)⟩,fun j u hu=>?_⟩
 rw [add_plain]
 obtain ⟨c0,c1,c2,c3,c4,c5,c6,c7,c8⟩:=h.cells i hi
 have hj:j < 9:=(List.getElem?_eq_some_iff.1 hu).1
 match j,hj with
 | 0,_=>cases hu;exact c0
 | 1,_=>cases hu;exact c1
 | 2,_=>cases hu;exact c2
 | 3,_=>cases hu;exact c3
 | 4,_=>cases hu;exact c4
 | 5,_=>cases hu;exact c5
 | 6,_=>cases hu;exact c6
 | 7,_=>cases hu;exact c7
 | 8,_=>cases hu;exact c8
set_option maxHeartbeats 3200000 in
set_option maxRecDepth 100000 in
theorem clone_calls (l:List Triple) (A:Option Addr) (c:Nat) (w:World) (HL:triK.sl.M w (fun _=>True) l [.slice A l.length c]) (hb:l.length * 120 ≤ 140737488355328) :
  Calls Tryz.prog 65 #[.slice A l.length c] w fun e w'=>(∃ v,e = .returned v∧triK.own 36 w' w.heap.size TT v l)∧Below w.heap.size w w':=by
 have HM:=Lib.hid HL
 obtain ⟨A',c',he,h1,h2,h3,hr⟩:=HL
 obtain ⟨rfl,rfl⟩:A = A'∧c = c':=by simpa using he
 cases A with
 | none =>
  have hc:=h3 rfl
  have hl0:l = []:=List.eq_nil_of_length_eq_zero (by omega)
  subst hl0 hc
  have HO:Hid (triK.own 36 w w.heap.size TT (.slice none 0 0) []):=Lib.hid (Kd.own_nil _ _ _ _ _)
  clear he h1 h2 h3 hr HM hb
  simp only [List.length_nil]
  have hq:∀ w,Sem.run Tryz.prog (binOp BinOp.eql 22 (Value.slice none 0 0) (Value.slice none 0 0)) w = .ok (.bool true) w:=fun w=>run_eql_nil_slice w 22 36 none 0 0 0 0 Tryz.underlying22
  go_enter Tryz.func65,Tryz.ntmps65
  go_wp2
  go_ret
  exact ⟨⟨_,rfl,HO.out⟩,Below.refl _ _⟩
 | some ad =>
  have b0:Below w.heap.size w (w.alloc (.cells #[] 36)):=bel_alloc (Below.refl _ _) _
  have HO0:Hid (triK.own 36 (w.alloc (.cells #[] 36)) w.heap.size TT (.slice (some ⟨w.heap.size,0,none⟩) 0 0) []):=
   Lib.hid (Kd.own_block (cells:=[]) (xs:=[]) (Nat.le_refl _) (Kd.heap_new _ _) rfl (by simp) (fun i x h=>by simp at h))
  have HR0:=Lib.hid (Kd.M_below HM.out b0)
  clear he h1 h2 h3 hr
  have hq:∀ w,Sem.run Tryz.prog (binOp BinOp.eql 22 (Value.slice (some ad) l.length c) (Value.slice none 0 0)) w = .ok (.bool false) w:=fun w=>Lib.run_eql_slice_nil w 22 36 (some ad) l.length c 0 0 Tryz.underlying22
  go_enter Tryz.func65,Tryz.ntmps65
  go_wp2_with (at_builtin;refine Kd.own_app triK w.heap.size rfl (.tmp 5) (.tmp 6) 22 36 zeroV 120 rfl Tryz.underlying22 info_tri rfl (by decide) _ [] l (some ad) c TT rfl rfl HO0.out (.inr ⟨HR0.out,any_tri⟩) b0 (by simp) (by simp;omega) ?_;intro v1 w1 ho1 hb1 hg1 hv1;clear hg1 hv1;rw [List.nil_append] at ho1;have HO1:=Lib.hid ho1;have HB1:=Lib.hid hb1;clear ho1 hb1 b0)
  go_wp2
  go_ret
  exact ⟨⟨_,rfl,HO1.out⟩,HB1.out⟩
end Go.Proofs.YtnplommdgfgboaaGreatDoor.SortW
namespace Go.Proofs.YtnplommdgfgboaaGreatDoor.SortW
open Go.RowKit Go.Lib B Rd Utf TermPure LinesPure Tx Env Tri SortP Print Cmp Long
theorem go_snoc:∀ (l:List Triple) (x y:Triple),compactT.go x (l ++ [y]) = compactT.go x l ++ (if cmpT y ((x :: l).getLast (by simp)) = 0 then [] else [y])
 | [],x,y=>by
  rw [List.nil_append,compactT.go,compactT.go,List.getLast_singleton]
  split <;> simp [compactT.go]
 | z :: l,x,y=>by
  have ih:=go_snoc l z y
  rw [List.cons_append,compactT.go,compactT.go,List.getLast_cons (by simp),ih]
  split
  ·
   rfl
  ·
   rfl
theorem compact_take (R : List Triple) (j : Nat) (h1 : 1 ≤ j) (hj : j < R.length) : compactT (R.take (j + 1)) = compactT (R.take j) ++ (if cmpT R[j] (R[j - 1]'(by omega)) = 0 then [] else [R[j]]) := by
  rw [List.take_succ_eq_append_getElem hj]
  obtain ⟨x, l, hxl⟩ : ∃ x l, R.take j = x :: l := by
    cases h : R.take j with
    | nil => rw [List.take_eq_nil_iff] at h; rcases h with h | h; · omega
             · rw [h] at hj; simp at hj
    | cons x l => exact ⟨x, l, rfl⟩
  have hlast : (x :: l).getLast (by simp) = R[j - 1]'(by omega) := by
    have hl : (R.take j).length = j := by rw [List.length_take]; omega
    have h2 : (R.take j).getLast (by rw [hxl]; simp) = R[j - 1]'(by omega) := by
      rw [List.getLast_eq_getElem, List.getElem_take]
      congr 1
      omega
    rw [← h2]
    congr 1
    exact hxl.symm
  rw [hxl, List.cons_append, compactT, compactT, go_snoc, hlast]
  rfl
theorem compact_one (R:List Triple) (h:0 < R.length):compactT (R.take 1) = R.take 1:=by
 cases R with
 | nil=>simp at h
 | cons x l=>simp [compactT,compactT.go]
theorem compact_same (R:List Triple):∀ j,1 ≤ j → j ≤ R.length → (∀ i (h:i < R.length),1 ≤ i → i < j → cmpT R[i] (R[i - 1]'(by omega)) ≠ 0) → compactT (R.take j) = R.take j
 | 0,h,_,_=>by omega
 | 1,_,h,_=>compact_one R (by omega)
 | j + 2,_,h,hne=>by
  rw [compact_take R (j + 1) (by omega) (by omega),compact_same R (j + 1) (by omega) (by omega) (fun i hi h1 h2=>hne i hi h1 (by omega)),if_neg (hne (j + 1) (by omega) (by omega) (by omega))]
  exact (List.take_succ_eq_append_getElem (by omega)).symm
theorem compact_len (R:List Triple):∀ j,j ≤ R.length → (compactT (R.take j)).length ≤ j
 | 0,_=>by simp [compactT]
 | 1,h=>by rw [compact_one R (by omega),List.length_take];omega
 | j + 2,h=>by
  have:=compact_len R (j + 1) (by omega)
  rw [compact_take R (j + 1) (by omega) (by omega),List.length_append]
  split <;> simp <;> omega
def eqV:Value:=.func (.func 121) #[] #[]
set_option maxHeartbeats 3200000 in
set_option maxRecDepth 100000 in
theorem eq_calls (a b:Triple) (ha:SmallT a) (hb:SmallT b) (w:World):Calls Tryz.prog 121 #[Ref5.tripleV a,Ref5.tripleV b] w fun e w'=>e = .returned (.bool (decide (cmpT a b = 0)))∧Below w.heap.size w w':=by
 have HX:=Lib.hid (box18 w a b ⟨_,Below.refl _ _⟩)
 have HC:=Lib.hid (fun w=>cmp_calls a b ha hb w)
 have HBe:=Lib.hid (bel_alloc (bel_alloc (Below.refl w.heap.size w) (.cells #[.int .i64 a.s.kind,.string (mkS a.s.text),.string (mkS a.s.extra),.int .i64 a.p.kind,.string (mkS a.p.text),.string (mkS a.p.extra),.int .i64 a.o.kind,.string (mkS a.o.text),.string (mkS a.o.extra)] 36)) (.cells #[.int .i64 b.s.kind,.string (mkS b.s.text),.string (mkS b.s.extra),.int .i64 b.p.kind,.string (mkS b.p.text),.string (mkS b.p.extra),.int .i64 b.o.kind,.string (mkS b.o.text),.string (mkS b.o.extra)] 36))
 generalize cmpT a b = v at *
 obtain ⟨⟨sk,sx,se⟩,⟨pk,px,pe⟩,⟨ok,ox,oe⟩⟩:=a
 obtain ⟨⟨sk',sx',se'⟩,⟨pk',px',pe'⟩,⟨ok',ox',oe'⟩⟩:=b
 unfold Ref5.tripleV at *
 dsimp only at *
 clear ha hb
 have HV:Hid ((v == 0) = decide (v = 0)):=Lib.hid (by by_cases h:v = 0 <;> simp [h])
 by_cases hv:v = 0
 ·
  subst hv
  go_enter Tryz.func121,Tryz.ntmps121
  go_wp2_with fail
  refine (HC.out _).mono ?_
  rintro e w2 ⟨rfl,hb⟩
  have HB:=Lib.hid (bel_step HBe.out hb)
  clear hb
  go_wp2
  go_ret
  exact ⟨rfl,HB.out⟩
 ·
  have hn:(v == 0) = false:=by rw [beq_eq_false_iff_ne];exact hv
  have HD:Hid (decide (v = 0) = false):=Lib.hid (decide_eq_false hv)
  clear hv
  go_enter Tryz.func121,Tryz.ntmps121
  go_wp2_with fail
  refine (HC.out _).mono ?_
  rintro e w2 ⟨rfl,hb⟩
  have HB:=Lib.hid (bel_step HBe.out hb)
  clear hb
  go_wp2
  go_ret
  exact ⟨by rw [HD.out];rfl,HB.out⟩
end Go.Proofs.YtnplommdgfgboaaGreatDoor.SortW
namespace Go.Proofs.YtnplommdgfgboaaGreatDoor.SortW
open Go.RowKit Go.Lib B Rd Utf TermPure LinesPure Tx Env Tri SortP Print Cmp Long
theorem setCells_grown (g:Nat):∀ (vs:List Value) (o:Nat) (w:World),w.grownBy (w.setCells g o vs) (some g)
 | [],_,w=>World.grownBy.refl _ _
 | v :: vs,o,w=>by
  rw [World.setCells]
  exact (grown_setCell w ⟨g,o,none⟩ v).trans (setCells_grown g vs (o + 1) _)
theorem SR.set {W w:World} {g:Nat} {l:List Triple} (h:SR W g l w) (i:Nat) (hi:i < l.length) (x:Triple):SR W g (l.set i x) (put9 w g (i * 9) x):=by
 refine ⟨h.grown.trans (put9_grown _ _ _ _),fun k hk=>?_,fun q hq=>?_⟩
 ·
  have hk':k < l.length:=by rw [List.length_set] at hk;exact hk
  by_cases e:k = i
  ·
   subst e
   rw [List.getElem_set_self]
   exact put9_same (h.cells k hk') _
  ·
   rw [List.getElem_set_ne (fun h=>e h.symm)]
   have hc:=h.cells k hk'
   have far:∀ d,d < 9 → (k * 9 + d < i * 9 ∨ i * 9 + 9 ≤ k * 9 + d):=fun d hd=>by omega
   exact ⟨(put9_other _ _ _ _ _ (far 0 (by omega))).trans hc.c0,(put9_other _ _ _ _ _ (far 1 (by omega))).trans hc.c1,(put9_other _ _ _ _ _ (far 2 (by omega))).trans hc.c2,
    (put9_other _ _ _ _ _ (far 3 (by omega))).trans hc.c3,(put9_other _ _ _ _ _ (far 4 (by omega))).trans hc.c4,(put9_other _ _ _ _ _ (far 5 (by omega))).trans hc.c5,
    (put9_other _ _ _ _ _ (far 6 (by omega))).trans hc.c6,(put9_other _ _ _ _ _ (far 7 (by omega))).trans hc.c7,(put9_other _ _ _ _ _ (far 8 (by omega))).trans hc.c8⟩
 ·
  rw [put9_frozen]
  rw [List.length_set] at hq
  exact h.free q hq
theorem zeroCells_len (n:Nat):(Builtin.zeroCells zeroV.cells n).toList.length = n * 9:=by
 simp [Builtin.zeroCells,zeroV,Value.cells]
theorem zeroCells_one (n:Nat):∀ v ∈ (Builtin.zeroCells zeroV.cells n).toList,v.oneCell' = true:=by
 intro v hv
 have key:∀ k:Nat,k < 9 → ((zeroV.cells)[k]!).oneCell' = true:=by decide
 simp [Builtin.zeroCells] at hv
 obtain ⟨i,hi,rfl⟩:=hv
 exact key _ (Nat.mod_lt _ (by decide))
theorem run_clear (w:World) (ty:TypeId) (b o n c:Nat) (hn:0 < n) (hc:∀ j,j < n * 9 → (w.cell? ⟨b,o + j,none⟩).isSome = true) (hf:∀ j,j < n * 9 → w.frozen? ⟨b,o + j,none⟩ = false) :
  (Builtin.clear_ #[22] ty #[.slice (some ⟨b,o,none⟩) n c]).run Tryz.prog w = .ok (.tuple #[]) (w.setCells b o (Builtin.zeroCells zeroV.cells n).toList):=by
 have hv:∀ w,(zeroValue 36).run Tryz.prog w = .ok zeroV w:=Tryz.zeroValue36
 have hst:=run_storeCells_cells (P:=Tryz.prog) b o (Builtin.zeroCells zeroV.cells n).toList 0 w (by rw [zeroCells_len];simpa using hc) (by rw [zeroCells_len];simpa using hf) (zeroCells_one n)
 simp only [Nat.add_zero] at hst
 obtain ⟨m,rfl⟩:∃ m,n = m + 1:=⟨n - 1,by omega⟩
 simp only [Builtin.clear_]
 simp [run_underlying Tryz.underlying22,hv,hst]
end Go.Proofs.YtnplommdgfgboaaGreatDoor.SortW
namespace Go.Proofs.YtnplommdgfgboaaGreatDoor.SortW
open Go.RowKit Go.Lib B Rd Utf TermPure LinesPure Tx Env Tri SortP Print Cmp Long
theorem run_cutk (w:World) (g L cap k:Nat) (hk:k < L) (hc:L ≤ cap):(Instr.slice 22 (.slice (some ⟨g,0,none⟩) L cap) (some (.int .i64 (k:Int))) none none).run Tryz.prog w = .ok (.slice (some ⟨g,k * 9,none⟩) (L - k) (cap - k)) w:=by
 have hu:(Tryz.prog).underlying 22 = some (.slice ((Tryz.prog).elem 22)):=by
  have:=Tryz.underlying22
  simp [Program.elem,this]
 have hs:∀ w,(sizeOf 36).run Tryz.prog w = .ok 9 w:=Tryz.sizeOf36
 have he:(Tryz.prog).elem 22 = 36:=by simp [Program.elem,Tryz.underlying22]
 rw [run_slice_l w _ _ L cap hu .i64 (k:Int) (by omega) (by omega),he,hs]
 have:¬ cap = k:=by omega
 simp [sliced,Result.andThen,this,Addr.add_lit]
theorem run_takek (w:World) (g L cap k:Nat) (hk:k ≤ L) (hk0:0 < L) (hc:L ≤ cap):(Instr.slice 22 (.slice (some ⟨g,0,none⟩) L cap) none (some (.int .i64 (k:Int))) none).run Tryz.prog w = .ok (.slice (some ⟨g,0,none⟩) k cap) w:=by
 have hu:(Tryz.prog).underlying 22 = some (.slice ((Tryz.prog).elem 22)):=by
  have:=Tryz.underlying22
  simp [Program.elem,this]
 have hs:∀ w,(sizeOf 36).run Tryz.prog w = .ok 9 w:=Tryz.sizeOf36
 have he:(Tryz.prog).elem 22 = 36:=by simp [Program.elem,Tryz.underlying22]
 rw [run_slice_h w _ _ L cap hu .i64 (k:Int) (by omega) (by omega),he,hs]
 have:¬ cap = 0:=by omega
 simp [sliced,Result.andThen,this,Addr.add_lit]
theorem setCells_frozen (g:Nat):∀ (vs:List Value) (o:Nat) (w:World) (a:Addr),(w.setCells g o vs).frozen? a = w.frozen? a
 | [],_,_,_=>rfl
 | v :: vs,o,w,a=>by
  rw [World.setCells,setCells_frozen g vs (o + 1) _ a,World.frozen?_setCell]
theorem setCells_far (g:Nat):∀ (vs:List Value) (o:Nat) (w:World) (q:Nat),q < o → (w.setCells g o vs).cell? ⟨g,q,none⟩ = w.cell? ⟨g,q,none⟩
 | [],_,_,_,_=>rfl
 | v :: vs,o,w,q,h=>by
  rw [World.setCells,setCells_far g vs (o + 1) _ q (by omega)]
  rw [World.cell?_setCell_other _ _ _ _ (by simp;try omega)]
theorem take_set_lt (l:List Triple) (k:Nat) (x:Triple) (hk:k < l.length):(l.set k x).take (k + 1) = l.take k ++ [x]:=by
 rw [List.take_succ_eq_append_getElem (by simpa using hk),List.getElem_set_self,List.take_set_of_le (Nat.le_refl k)]
structure CI (R l':List Triple) (L k j:Nat):Prop where
 len:l'.length = L
 head:l'.take k = compactT (R.take j)
 tail:∀ q,k ≤ q → l'[q]? = R[q]?
theorem CI.start {R:List Triple} {L k:Nat} (hL:R.length = L) (h1:1 ≤ k) (hk:k < L) (hne:∀ i (h:i < R.length),1 ≤ i → i < k → cmpT R[i] (R[i - 1]'(by omega)) ≠ 0) (he:cmpT (R[k]'(by omega)) (R[k - 1]'(by omega)) = 0):CI R R L k (k + 1):=
 ⟨hL,by rw [compact_take R k h1 (by omega),if_pos he,List.append_nil,compact_same R k h1 (by omega) hne],fun q _=>rfl⟩
theorem CI.same {R l':List Triple} {L k j:Nat} (h:CI R l' L k j) (hL:R.length = L) (h1:1 ≤ j) (hj:j < L) (he:cmpT (R[j]'(by omega)) (R[j - 1]'(by omega)) = 0):CI R l' L k (j + 1):=
 ⟨h.len,by rw [compact_take R j h1 (by omega),if_pos he,List.append_nil];exact h.head,h.tail⟩
theorem CI.put {R l':List Triple} {L k j:Nat} (h:CI R l' L k j) (hL:R.length = L) (h1:1 ≤ j) (hj:j < L) (hk:k < L) (he:¬ cmpT (R[j]'(by omega)) (R[j - 1]'(by omega)) = 0):CI R (l'.set k (R[j]'(by omega))) L (k + 1) (j + 1):=
 ⟨by rw [List.length_set];exact h.len,by rw [compact_take R j h1 (by omega),if_neg he,take_set_lt _ _ _ (by rw [h.len];exact hk),h.head],fun q hq=>by
  rw [List.getElem?_set_ne (by omega)];exact h.tail q (by omega)⟩
set_option maxHeartbeats 25600000 in
set_option maxRecDepth 100000 in
theorem compact_calls (R:List Triple) (L cap:Nat) (hL:R.length = L) (hc:L ≤ cap) (hLs:L ≤ 70368744177664) (hcM:cap ≤ maxLen) (hsm:∀ t ∈ R,SmallT t) (g:Nat) (W w:World) (hS:SR W g R w) :
  Calls Tryz.prog 120 #[.slice (some ⟨g,0,none⟩) L cap,eqV] w fun e w'=>e = .returned (.slice (some ⟨g,0,none⟩) (compactT R).length cap)∧SR W g (compactT R) w':=by
 have HSm:Hid (∀ j (h:j < R.length),SmallT R[j]):=Lib.hid (fun j h=>hsm _ (List.getElem_mem h))
 have HL:Hid (R.length = L):=Lib.hid hL
 have HS0:=Lib.hid hS
 by_cases hL2:L < 2
 ·
  have hd:decide (L < 2) = true:=decide_eq_true hL2
  have HE:Hid (compactT R = R):=Lib.hid (by
   rcases R with _ | ⟨a,_ | ⟨b,R⟩⟩
   ·
    rfl
   ·
    rfl
   ·
    simp at hL;omega)
  rw [HE.out]
  have HV:Hid (SR W g R w):=Lib.hid hS
  clear hS hsm hL HE
  unfold eqV
  go_enter Tryz.func120,Tryz.ntmps120
  go_wp2
  go_ret
  exact ⟨by rw [HL.out];rfl,HV.out⟩
 have hd:decide (L < 2) = false:=decide_eq_false hL2
 clear hS hsm hL
 unfold eqV
 go_enter Tryz.func120,Tryz.ntmps120
 go_wp2
 go_loopw [5] (fun vk wr=>∃ k:Nat,vk = .int .i64 k∧1 ≤ k∧k ≤ L∧Hid ((∀ i (h:i < R.length),1 ≤ i → i < k → cmpT R[i] (R[i - 1]'(by omega)) ≠ 0)∧SR W g R wr)) (fun vk _=>L - (intOf vk).toNat)
 case atStart=>exact ⟨1,by go_num,by omega,by omega,Lib.hid ⟨fun i h h1 h2=>by omega,HS0.out⟩⟩
 case round =>
  obtain ⟨k,rfl,hk1,hkL,HR⟩:=hrel
  clear HS0
  by_cases hlt:k < L
  ·
   have hdk:decide (k < L) = true:=decide_eq_true hlt
   obtain ⟨kp,hkp⟩:∃ kp,kp = k - 1:=⟨_,rfl⟩
   have hwk:IntKind.i64.wrap ((k:Int) - 1) = (kp:Int):=by rw [IntKind.wrap_i64];omega
   have jk:(k:Int) < (L:Int):=by omega
   have jkp:(kp:Int) < (L:Int):=by omega
   obtain ⟨x,hx⟩:∃ x,x = R[k]'(by rw [HL.out];exact hlt):=⟨_,rfl⟩
   obtain ⟨y,hy⟩:∃ y,y = R[k - 1]'(by rw [HL.out];omega):=⟨_,rfl⟩
   have hcx:=HR.out.2.cells k (by rw [HL.out];exact hlt)
   have hcy:=HR.out.2.cells kp (by rw [HL.out];omega)
   rw [show R[kp]'(by rw [HL.out];omega) = y by rw [hy];congr 1] at hcy
   rw [← hx] at hcx
   have hgl:g < wr.heap.size:=hcx.lt
   have HBk:Hid (∀ w2,Below wr.heap.size wr w2 → SR W g R w2):=Lib.hid (fun w2 hb=>HR.out.2.below hgl hb)
   have HCC:=Lib.hid (fun w=>eq_calls x y (by rw [hx];exact HSm.out _ _) (by rw [hy];exact HSm.out _ _) w)
   by_cases hv:cmpT x y = 0
   ·
    have HC:Hid (∀ w,Calls Tryz.prog 121 #[Ref5.tripleV x,Ref5.tripleV y] w fun e w'=>e = .returned (.bool true)∧Below w.heap.size w w'):=Lib.hid (fun w=>by
     have:=HCC.out w
     rwa [decide_eq_true hv] at this)
    have HI0:Hid (CI R R L k (k + 1)):=Lib.hid (CI.start HL.out hk1 hlt HR.out.1 (by rw [← hx,← hy];exact hv))
    clear HCC hv hx hy hkp
    obtain ⟨n,hn⟩:∃ n,n = L - k:=⟨_,rfl⟩
    obtain ⟨c2,hc2⟩:∃ c2,c2 = cap - k:=⟨_,rfl⟩
    have HSl:∀ w,(Instr.slice 22 (.slice (some ⟨g,0,none⟩) L cap) (some (.int .i64 (k:Int))) none none).run Tryz.prog w = .ok (.slice (some ⟨g,k * 9,none⟩) n c2) w:=fun w=>by rw [hn,hc2];exact run_cutk w g L cap k hlt hc
    have HN:=Lib.hid hn
    have hnL:k + n ≤ L:=by omega
    clear hc2 hn
    obtain ⟨⟨sk,sx,se⟩,⟨pk,px,pe⟩,⟨ok,ox,oe⟩⟩:=x
    obtain ⟨⟨sk',sx',se'⟩,⟨pk',px',pe'⟩,⟨ok',ox',oe'⟩⟩:=y
    have x0:=fun p=>(hcx.bel p).c0
    have x1:=fun p=>(hcx.bel p).c1
    have x2:=fun p=>(hcx.bel p).c2
    have x3:=fun p=>(hcx.bel p).c3
    have x4:=fun p=>(hcx.bel p).c4
    have x5:=fun p=>(hcx.bel p).c5
    have x6:=fun p=>(hcx.bel p).c6
    have x7:=fun p=>(hcx.bel p).c7
    have x8:=fun p=>(hcx.bel p).c8
    have y0:=fun p=>(hcy.bel p).c0
    have y1:=fun p=>(hcy.bel p).c1
    have y2:=fun p=>(hcy.bel p).c2
    have y3:=fun p=>(hcy.bel p).c3
    have y4:=fun p=>(hcy.bel p).c4
    have y5:=fun p=>(hcy.bel p).c5
    have y6:=fun p=>(hcy.bel p).c6
    have y7:=fun p=>(hcy.bel p).c7
    have y8:=fun p=>(hcy.bel p).c8
    dsimp only at x0 x1 x2 x3 x4 x5 x6 x7 x8 y0 y1 y2 y3 y4 y5 y6 y7 y8
    unfold Ref5.tripleV at HC
    dsimp only at HC
    go_upto_region 6 with fail
    refine QT.region_all (by kernel_rfl) (by kernel_rfl) ?_
    iterate 10 (go_big_quiet_step (fail))
    go_big_quiet_step (exact QT.Bel.call _ (HC.out _))
    refine wpQuiet_nil ?_
    intro w2 hw'
    obtain ⟨⟨_,hb⟩,rfl⟩:=hw'
    have HS1:=Lib.hid (HBk.out w2 hb)
    clear hb x0 x1 x2 x3 x4 x5 x6 x7 x8 y0 y1 y2 y3 y4 y5 y6 y7 y8 hcx hcy HBk HR
    have hk1L:k + 1 ≤ L:=by omega
    go_wp2
    go_loopw [5,7] (fun vk vm wx=>∃ (k1 m:Nat) (l':List Triple),vk = .int .i64 k1∧vm = .int .i64 m∧k ≤ k1∧1 ≤ m∧k1 < k + m∧k + m ≤ L∧Hid (CI R l' L k1 (k + m)∧SR W g l' wx)) (fun _ vm _=>L - (intOf vm).toNat)
    case atStart=>exact ⟨k,1,R,rfl,by go_num,by omega,by omega,by omega,by omega,Lib.hid ⟨HI0.out,HS1.out⟩⟩
    case round =>
     obtain ⟨k1,m,l',rfl,rfl,hkk,hm1,hkm,hmL,HR⟩:=hrel
     clear HI0 HS1
     by_cases hlt2:m < n
     ·
      have hd2:decide (m < n) = true:=decide_eq_true hlt2
      have jm:(m:Int) < (n:Int):=by omega
      obtain ⟨mp,hmp⟩:∃ mp,mp = m - 1:=⟨_,rfl⟩
      have hwm:IntKind.i64.wrap ((m:Int) - 1) = (mp:Int):=by rw [IntKind.wrap_i64];omega
      have jmp:(mp:Int) < (n:Int):=by omega
      have hjL:k + m < L:=by have:=HN.out;omega
      obtain ⟨x,hx⟩:∃ x,x = R[k + m]'(by rw [HL.out];exact hjL):=⟨_,rfl⟩
      obtain ⟨y,hy⟩:∃ y,y = R[k + m - 1]'(by rw [HL.out];omega):=⟨_,rfl⟩
      have hcx:C9 wr g (k * 9 + m * 9) x:=by
       rw [← Nat.add_mul]
       exact HR.out.2.at (by rw [HR.out.1.tail (k + m) (by omega),hx];exact List.getElem?_eq_getElem _)
      have hcy:C9 wr g (k * 9 + mp * 9) y:=by
       rw [← Nat.add_mul,show k + mp = k + m - 1 by omega]
       exact HR.out.2.at (by rw [HR.out.1.tail (k + m - 1) (by omega),hy];exact List.getElem?_eq_getElem _)
      have hgl:g < wr.heap.size:=hcx.lt
      have HBk:Hid (∀ w2,Below wr.heap.size wr w2 → SR W g l' w2):=Lib.hid (fun w2 hb=>HR.out.2.below hgl hb)
      have HCC:=Lib.hid (fun w=>eq_calls x y (by rw [hx];exact HSm.out _ _) (by rw [hy];exact HSm.out _ _) w)
      by_cases hv:cmpT x y = 0
      ·
       have HC:Hid (∀ w,Calls Tryz.prog 121 #[Ref5.tripleV x,Ref5.tripleV y] w fun e w'=>e = .returned (.bool true)∧Below w.heap.size w w'):=Lib.hid (fun w=>by
        have:=HCC.out w
        rwa [decide_eq_true hv] at this)
       have HI1:Hid (CI R l' L k1 (k + (m + 1))):=Lib.hid (HR.out.1.same HL.out (by omega) hjL (by rw [← hx,← hy];exact hv))
       clear HCC hv hx hy hmp
       obtain ⟨⟨sk,sx,se⟩,⟨pk,px,pe⟩,⟨ok,ox,oe⟩⟩:=x
       obtain ⟨⟨sk',sx',se'⟩,⟨pk',px',pe'⟩,⟨ok',ox',oe'⟩⟩:=y
       have x0:=fun p=>(hcx.bel p).c0
       have x1:=fun p=>(hcx.bel p).c1
       have x2:=fun p=>(hcx.bel p).c2
       have x3:=fun p=>(hcx.bel p).c3
       have x4:=fun p=>(hcx.bel p).c4
       have x5:=fun p=>(hcx.bel p).c5
       have x6:=fun p=>(hcx.bel p).c6
       have x7:=fun p=>(hcx.bel p).c7
       have x8:=fun p=>(hcx.bel p).c8
       have y0:=fun p=>(hcy.bel p).c0
       have y1:=fun p=>(hcy.bel p).c1
       have y2:=fun p=>(hcy.bel p).c2
       have y3:=fun p=>(hcy.bel p).c3
       have y4:=fun p=>(hcy.bel p).c4
       have y5:=fun p=>(hcy.bel p).c5
       have y6:=fun p=>(hcy.bel p).c6
       have y7:=fun p=>(hcy.bel p).c7
       have y8:=fun p=>(hcy.bel p).c8
       dsimp only at x0 x1 x2 x3 x4 x5 x6 x7 x8 y0 y1 y2 y3 y4 y5 y6 y7 y8
       unfold Ref5.tripleV at HC
       dsimp only at HC
       go_upto_region 11 with fail
       refine QT.region_all (by kernel_rfl) (by kernel_rfl) ?_
       iterate 10 (go_big_quiet_step (fail))
       go_big_quiet_step (exact QT.Bel.call _ (HC.out _))
       iterate 1 (go_big_quiet_step (fail))
       refine wpQuiet_nil ?_
       intro w2 hw'
       obtain ⟨⟨_,hb⟩,rfl⟩:=hw'
       have HS1:=Lib.hid (HBk.out w2 hb)
       clear hb x0 x1 x2 x3 x4 x5 x6 x7 x8 y0 y1 y2 y3 y4 y5 y6 y7 y8 hcx hcy HBk HR
       go_wp2
       go_roundw
       case rel=>exact ⟨k1,m + 1,l',rfl,by go_num,by omega,by omega,by omega,by omega,Lib.hid ⟨HI1.out,HS1.out⟩⟩
       case measure=>simp [intOf];omega
      ·
       have HC:Hid (∀ w,Calls Tryz.prog 121 #[Ref5.tripleV x,Ref5.tripleV y] w fun e w'=>e = .returned (.bool false)∧Below w.heap.size w w'):=Lib.hid (fun w=>by
        have:=HCC.out w
        rwa [decide_eq_false hv] at this)
       have HI1:Hid (CI R (l'.set k1 x) L (k1 + 1) (k + (m + 1))):=Lib.hid (by
        have:=HR.out.1.put HL.out (by omega) hjL (by omega) (by rw [← hx,← hy];exact hv)
        rw [← hx] at this
        exact this)
       have jk1:(k1:Int) < (L:Int):=by omega
       have HPut:Hid (∀ w2,SR W g l' w2 → SR W g (l'.set k1 x) (put9 w2 g (k1 * 9) x)):=Lib.hid (fun w2 h=>h.set k1 (by rw [HR.out.1.len];omega) x)
       have HFree:Hid (∀ w2,SR W g l' w2 → (∀ d,d < 9 → w2.frozen? ⟨g,k1 * 9 + d,none⟩ = false)):=Lib.hid (fun w2 hS2 d hd=>hS2.free _ (by rw [HR.out.1.len];omega))
       have HOld:Hid (∃ z,∀ w2,SR W g l' w2 → C9 w2 g (k1 * 9) z):=Lib.hid ⟨l'[k1]'(by rw [HR.out.1.len];omega),fun w2 h=>h.cells k1 _⟩
       clear HCC hv hx hy hmp
       obtain ⟨⟨sk,sx,se⟩,⟨pk,px,pe⟩,⟨ok,ox,oe⟩⟩:=x
       obtain ⟨⟨sk',sx',se'⟩,⟨pk',px',pe'⟩,⟨ok',ox',oe'⟩⟩:=y
       have x0:=fun p=>(hcx.bel p).c0
       have x1:=fun p=>(hcx.bel p).c1
       have x2:=fun p=>(hcx.bel p).c2
       have x3:=fun p=>(hcx.bel p).c3
       have x4:=fun p=>(hcx.bel p).c4
       have x5:=fun p=>(hcx.bel p).c5
       have x6:=fun p=>(hcx.bel p).c6
       have x7:=fun p=>(hcx.bel p).c7
       have x8:=fun p=>(hcx.bel p).c8
       have y0:=fun p=>(hcy.bel p).c0
       have y1:=fun p=>(hcy.bel p).c1
       have y2:=fun p=>(hcy.bel p).c2
       have y3:=fun p=>(hcy.bel p).c3
       have y4:=fun p=>(hcy.bel p).c4
       have y5:=fun p=>(hcy.bel p).c5
       have y6:=fun p=>(hcy.bel p).c6
       have y7:=fun p=>(hcy.bel p).c7
       have y8:=fun p=>(hcy.bel p).c8
       dsimp only at x0 x1 x2 x3 x4 x5 x6 x7 x8 y0 y1 y2 y3 y4 y5 y6 y7 y8
       unfold Ref5.tripleV at HC
       dsimp only at HC
       go_upto_region 11 with fail
       refine QT.region_all (by kernel_rfl) (by kernel_rfl) ?_
       iterate 10 (go_big_quiet_step (fail))
       go_big_quiet_step (exact QT.Bel.call _ (HC.out _))
       iterate 1 (go_big_quiet_step (fail))
       refine wpQuiet_nil ?_
       intro w2 hw'
       obtain ⟨⟨_,hb⟩,rfl⟩:=hw'
       have HS2:=Lib.hid (HBk.out w2 hb)
       have HSW:=Lib.hid (HPut.out w2 HS2.out)
       unfold put9 at HSW
       dsimp only at HSW
       have f0:=HFree.out w2 HS2.out 0 (by omega)
       have f1:=HFree.out w2 HS2.out 1 (by omega)
       have f2:=HFree.out w2 HS2.out 2 (by omega)
       have f3:=HFree.out w2 HS2.out 3 (by omega)
       have f4:=HFree.out w2 HS2.out 4 (by omega)
       have f5:=HFree.out w2 HS2.out 5 (by omega)
       have f6:=HFree.out w2 HS2.out 6 (by omega)
       have f7:=HFree.out w2 HS2.out 7 (by omega)
       have f8:=HFree.out w2 HS2.out 8 (by omega)
       obtain ⟨z,hz⟩:=HOld.out
       have z0:=(hz w2 HS2.out).c0
       have z1:=(hz w2 HS2.out).c1
       have z2:=(hz w2 HS2.out).c2
       have z3:=(hz w2 HS2.out).c3
       have z4:=(hz w2 HS2.out).c4
       have z5:=(hz w2 HS2.out).c5
       have z6:=(hz w2 HS2.out).c6
       have z7:=(hz w2 HS2.out).c7
       have z8:=(hz w2 HS2.out).c8
       simp only [Nat.add_zero] at f0
       have a0:=(hcx.below hb).c0
       have a1:=(hcx.below hb).c1
       have a2:=(hcx.below hb).c2
       have a3:=(hcx.below hb).c3
       have a4:=(hcx.below hb).c4
       have a5:=(hcx.below hb).c5
       have a6:=(hcx.below hb).c6
       have a7:=(hcx.below hb).c7
       have a8:=(hcx.below hb).c8
       clear hb x0 x1 x2 x3 x4 x5 x6 x7 x8 y0 y1 y2 y3 y4 y5 y6 y7 y8 hcx hcy HBk HR hz
       dsimp only at a0 a1 a2 a3 a4 a5 a6 a7 a8
       go_wp2
       go_roundw
       case rel=>exact ⟨k1 + 1,m + 1,_,by go_num,by go_num,by omega,by omega,by omega,by omega,Lib.hid ⟨HI1.out,HSW.out⟩⟩
       case measure=>simp [intOf];omega
     ·
      have hd2:decide (m < n) = false:=decide_eq_false hlt2
      have hk1L2:k1 < L:=by omega
      have HEnd:Hid (compactT R = l'.take k1):=Lib.hid (by
       have:=HR.out.1.head
       rw [List.take_of_length_le (l:=R) (by rw [HL.out];have:=HN.out;omega)] at this
       exact this.symm)
      obtain ⟨n2,hn2⟩:∃ n2,n2 = L - k1:=⟨_,rfl⟩
      obtain ⟨c3,hc3⟩:∃ c3,c3 = cap - k1:=⟨_,rfl⟩
      have HSl2:∀ w,(Instr.slice 22 (.slice (some ⟨g,0,none⟩) L cap) (some (.int .i64 (k1:Int))) none none).run Tryz.prog w = .ok (.slice (some ⟨g,k1 * 9,none⟩) n2 c3) w:=fun w=>by rw [hn2,hc3];exact run_cutk w g L cap k1 hk1L2 hc
      have HSl3:∀ w,(Instr.slice 22 (.slice (some ⟨g,0,none⟩) L cap) none (some (.int .i64 (k1:Int))) none).run Tryz.prog w = .ok (.slice (some ⟨g,0,none⟩) k1 cap) w:=fun w=>run_takek w g L cap k1 (by omega) (by omega) hc
      have HLl:l'.length = L:=HR.out.1.len
      obtain ⟨Z,hZ⟩:∃ Z,Z = (Builtin.zeroCells zeroV.cells n2).toList:=⟨_,rfl⟩
      have HClr:∀ ty,(Builtin.clear_ #[22] ty #[.slice (some ⟨g,k1 * 9,none⟩) n2 c3]).run Tryz.prog wr = .ok (.tuple #[]) (wr.setCells g (k1 * 9) Z):=fun ty=>by
       rw [hZ]
       refine run_clear wr ty g (k1 * 9) n2 c3 (by omega) (fun j hj=>?_) (fun j hj=>?_)
       ·
        obtain ⟨q,d,hd,he⟩:∃ q d,d < 9∧k1 * 9 + j = q * 9 + d:=⟨(k1 * 9 + j) / 9,(k1 * 9 + j) % 9,Nat.mod_lt _ (by omega),by omega⟩
        rw [he]
        have hq:q < l'.length:=by omega
        obtain ⟨c0,c1,c2,c3,c4,c5,c6,c7,c8⟩:=HR.out.2.cells q hq
        rcases (by omega:d = 0 ∨ d = 1 ∨ d = 2 ∨ d = 3 ∨ d = 4 ∨ d = 5 ∨ d = 6 ∨ d = 7 ∨ d = 8) with h | h | h | h | h | h | h | h | h <;> subst h
        ·
         rw [show q * 9 + 0 = q * 9 from rfl,c0];rfl
        ·
         rw [c1];rfl
        ·
         rw [c2];rfl
        ·
         rw [c3];rfl
        ·
         rw [c4];rfl
        ·
         rw [c5];rfl
        ·
         rw [c6];rfl
        ·
         rw [c7];rfl
        ·
         rw [c8];rfl
       ·
        exact HR.out.2.free _ (by omega)
      have HV:Hid ((compactT R).length = k1∧SR W g (compactT R) (wr.setCells g (k1 * 9) Z)):=Lib.hid (by
       have hlen:(compactT R).length = k1:=by rw [HEnd.out,List.length_take];omega
       refine ⟨hlen,HR.out.2.grown.trans (setCells_grown g Z _ _),fun i hi=>?_,fun j hj=>by rw [setCells_frozen];exact HR.out.2.free j (by omega)⟩
       have hi2:i < l'.length:=by omega
       have hcell:=HR.out.2.cells i hi2
       have he:(compactT R)[i] = l'[i]:=by
        have:∀ (A B:List Triple) (e:A = B) (h:i < A.length) (h':i < B.length),A[i] = B[i]:=by rintro A B rfl h h';rfl
        rw [this _ _ HEnd.out hi (by rw [← HEnd.out];exact hi),List.getElem_take]
       rw [he]
       obtain ⟨c0,c1,c2,c3,c4,c5,c6,c7,c8⟩:=hcell
       have far:∀ o,o < k1 * 9 → (wr.setCells g (k1 * 9) Z).cell? ⟨g,o,none⟩ = wr.cell? ⟨g,o,none⟩:=fun o ho=>setCells_far g Z (k1 * 9) wr o ho
       exact ⟨(far _ (by omega)).trans c0,(far _ (by omega)).trans c1,(far _ (by omega)).trans c2,(far _ (by omega)).trans c3,(far _ (by omega)).trans c4,(far _ (by omega)).trans c5,(far _ (by omega)).trans c6,(far _ (by omega)).trans c7,(far _ (by omega)).trans c8⟩)
      clear hn2 hc3 hZ HEnd HR HLl
      go_wp2
      go_ret
      exact ⟨by rw [HV.out.1];rfl,HV.out.2⟩
   ·
    have HC:Hid (∀ w,Calls Tryz.prog 121 #[Ref5.tripleV x,Ref5.tripleV y] w fun e w'=>e = .returned (.bool false)∧Below w.heap.size w w'):=Lib.hid (fun w=>by
     have:=HCC.out w
     rwa [decide_eq_false hv] at this)
    have HI0:Hid (∀ i (h:i < R.length),1 ≤ i → i < k + 1 → cmpT R[i] (R[i - 1]'(by omega)) ≠ 0):=Lib.hid (fun i h h1 h2=>by
     by_cases e:i = k
     ·
      subst e
      rw [← hx,← hy]
      exact hv
     ·
      exact HR.out.1 i h h1 (by omega))
    clear HCC hv hx hy hkp
    obtain ⟨⟨sk,sx,se⟩,⟨pk,px,pe⟩,⟨ok,ox,oe⟩⟩:=x
    obtain ⟨⟨sk',sx',se'⟩,⟨pk',px',pe'⟩,⟨ok',ox',oe'⟩⟩:=y
    have x0:=fun p=>(hcx.bel p).c0
    have x1:=fun p=>(hcx.bel p).c1
    have x2:=fun p=>(hcx.bel p).c2
    have x3:=fun p=>(hcx.bel p).c3
    have x4:=fun p=>(hcx.bel p).c4
    have x5:=fun p=>(hcx.bel p).c5
    have x6:=fun p=>(hcx.bel p).c6
    have x7:=fun p=>(hcx.bel p).c7
    have x8:=fun p=>(hcx.bel p).c8
    have y0:=fun p=>(hcy.bel p).c0
    have y1:=fun p=>(hcy.bel p).c1
    have y2:=fun p=>(hcy.bel p).c2
    have y3:=fun p=>(hcy.bel p).c3
    have y4:=fun p=>(hcy.bel p).c4
    have y5:=fun p=>(hcy.bel p).c5
    have y6:=fun p=>(hcy.bel p).c6
    have y7:=fun p=>(hcy.bel p).c7
    have y8:=fun p=>(hcy.bel p).c8
    dsimp only at x0 x1 x2 x3 x4 x5 x6 x7 x8 y0 y1 y2 y3 y4 y5 y6 y7 y8
    unfold Ref5.tripleV at HC
    dsimp only at HC
    go_upto_region 6 with fail
    refine QT.region_all (by kernel_rfl) (by kernel_rfl) ?_
    iterate 10 (go_big_quiet_step (fail))
    go_big_quiet_step (exact QT.Bel.call _ (HC.out _))
    refine wpQuiet_nil ?_
    intro w2 hw'
    obtain ⟨⟨_,hb⟩,rfl⟩:=hw'
    have HS1:=Lib.hid (HBk.out w2 hb)
    clear hb x0 x1 x2 x3 x4 x5 x6 x7 x8 y0 y1 y2 y3 y4 y5 y6 y7 y8 hcx hcy HBk HR
    go_wp2
    go_roundw
    case rel=>exact ⟨k + 1,by go_num,by omega,by omega,Lib.hid ⟨HI0.out,HS1.out⟩⟩
    case measure=>simp [intOf];omega
  ·
   have hdk:decide (k < L) = false:=decide_eq_false hlt
   have HV:Hid ((compactT R).length = L∧SR W g (compactT R) wr):=Lib.hid (by
    have he:compactT R = R:=by
     have h1:=compact_same R L (by omega) (by rw [HL.out];exact Nat.le_refl _) (fun i hi h1 h2=>HR.out.1 i hi h1 (by omega))
     rw [List.take_of_length_le (by rw [HL.out];exact Nat.le_refl _)] at h1
     exact h1
    rw [he]
    exact ⟨HL.out,HR.out.2⟩)
   clear HR
   go_wp2
   go_ret
   exact ⟨by rw [HV.out.1];rfl,HV.out.2⟩
end Go.Proofs.YtnplommdgfgboaaGreatDoor.SortW
namespace Go.Proofs.YtnplommdgfgboaaGreatDoor.SortW
open Go.RowKit Go.Lib B Rd Utf TermPure LinesPure Tx Env Tri SortP Print Cmp Long
theorem ins_nil (A:Option Addr) (c:Nat) (w:World):Calls Tryz.prog 194 #[.slice A 0 c,.int .i64 0,.int .i64 0,cmpV] w fun e w'=>e = .returned (.tuple #[])∧w' = w:=by
 unfold cmpV
 go_enter Tryz.func194,Tryz.ntmps194
 go_wp2
 go_loopw [8] (fun vi wr=>vi = .int .i64 1∧wr = w) (fun vi _=>0)
 case atStart=>exact ⟨by go_num,rfl⟩
 case round =>
  obtain ⟨rfl,rfl⟩:=hrel
  go_wp2
  go_end0
  exact ⟨rfl,rfl⟩
theorem stable_nil (A:Option Addr) (c:Nat) (w:World):Calls Tryz.prog 152 #[.slice A 0 c,.int .i64 0,cmpV] w fun e w'=>e = .returned (.tuple #[])∧w' = w:=by
 have HC:=Lib.hid (ins_nil A c w)
 unfold cmpV at *
 go_enter Tryz.func152,Tryz.ntmps152
 go_wp2
 go_loopw [7,8] (fun va vb wr=>va = .int .i64 0∧vb = .int .i64 20∧wr = w) (fun va _ _=>0)
 case atStart=>exact ⟨rfl,rfl,rfl⟩
 case round =>
  obtain ⟨rfl,rfl,rfl⟩:=hrel
  go_wp2_with fail
  refine HC.out.mono ?_
  rintro e w2 ⟨rfl,rfl⟩
  go_wp2
  go_loopw [6] (fun va wx=>va = .int .i64 20∧wx = w2) (fun va _=>0)
  case atStart=>exact ⟨rfl,rfl⟩
  case round =>
   obtain ⟨rfl,rfl⟩:=hrel
   go_wp2
   go_end0
   exact ⟨rfl,rfl⟩
theorem sortStable_nil (A:Option Addr) (c:Nat) (w:World) :
  Calls Tryz.prog 118 #[.slice A 0 c,cmpV] w fun e w'=>e = .returned (.tuple #[])∧w' = w:=by
 have HC:=Lib.hid (stable_nil A c w)
 unfold cmpV at *
 go_enter Tryz.func118,Tryz.ntmps118
 go_wp2_with fail
 refine HC.out.mono ?_
 rintro e w2 ⟨rfl,rfl⟩
 go_wp2
 go_end0
 exact ⟨rfl,rfl⟩
theorem compact_nil (A:Option Addr) (c:Nat) (w:World) :
  Calls Tryz.prog 120 #[.slice A 0 c,eqV] w fun e w'=>e = .returned (.slice A 0 c)∧w' = w:=by
 unfold eqV
 go_enter Tryz.func120,Tryz.ntmps120
 go_wp2
 go_ret
 exact ⟨rfl,rfl⟩
theorem maxcap {w:World} {base:Nat} {ok:Nat → Prop} {l:List Triple} {A:Option Addr} {n c:Nat} (h:triK.own 36 w base ok (.slice A n c) l):c ≤ maxLen:=by
 obtain ⟨A',c',he,_,⟨_,h2⟩,_⟩:=Kd.own_sl (ok':=fun _=>True) h (fun _ _=>trivial) (fun _ _=>trivial)
 cases he
 exact h2
set_option maxHeartbeats 6400000 in
set_option maxRecDepth 100000 in
theorem sort_calls (l:List Triple) (A:Option Addr) (c:Nat) (w:World) (HL:triK.sl.M w (fun k=>k < w.heap.size) l [.slice A l.length c]) (hs:∀ t ∈ l,SmallT t) (hv:Valid l) (hb:l.length * 120 ≤ 140737488355328) :
  Calls Tryz.prog 71 #[.slice A l.length c] w fun e w'=>∃ A' c',e = .returned (.slice A' (sortT l).length c')∧triK.sl.M w' (fun k=>w.heap.size ≤ k∧k < w'.heap.size) (sortT l) [.slice A' (sortT l).length c']∧Below w.heap.size w w':=by
 have HC:=Lib.hid (clone_calls l A c w (triK.sl.mono (fun k _ _=>trivial) HL) hb)
 have HF:=Lib.hid (row_fits HL)
 have HS:=Lib.hid hs
 have HV:=Lib.hid hv
 clear HL hs hv
 go_enter Tryz.func71,Tryz.ntmps71
 go_wp2_with fail
 refine HC.out.mono ?_
 rintro e w2 ⟨⟨v,rfl,ho⟩,hb2⟩
 clear HC
 have HB2:=Lib.hid hb2
 clear hb2
 rcases Nat.eq_zero_or_pos l.length with h0 | hp
 ·
  obtain rfl:l = []:=List.eq_nil_of_length_eq_zero h0
  obtain ⟨A2,c2,rfl,hc,hA⟩:=Kd.own_slice ho
  have HM:Hid (triK.sl.M w2 (fun k=>w.heap.size ≤ k∧k < w2.heap.size) (sortT []) [.slice A2 (sortT []).length c2]):=Lib.hid ⟨A2,c2,rfl,Nat.zero_le _,⟨Nat.zero_le _,maxcap ho⟩,hA,Kd.row_nil _ _ _ _⟩
  clear ho
  have HC2:=Lib.hid (sortStable_nil A2 c2 w2)
  have HC3:=Lib.hid (compact_nil A2 c2 w2)
  unfold cmpV at HC2
  unfold eqV at HC3
  go_wp2_with fail
  refine HC2.out.mono ?_
  rintro e w3 ⟨rfl,rfl⟩
  go_wp2_with fail
  refine HC3.out.mono ?_
  rintro e w4 ⟨rfl,rfl⟩
  go_wp2
  go_ret
  exact ⟨_,_,rfl,HM.out,HB2.out⟩
 ·
  obtain ⟨g,cap,rfl,hg,hlt,hc,hS⟩:=SR.of_own ho hp
  have hcm:=maxcap ho
  clear ho
  have HC2:=Lib.hid (sortStable_calls l l.length cap rfl (by omega) HS.out g w2 w2 hS)
  unfold cmpV at HC2
  clear hS
  go_wp2_with fail
  refine HC2.out.mono ?_
  rintro e w3 ⟨rfl,R,hR,hsR,hS3⟩
  have HC3:=Lib.hid (compact_calls R l.length cap hR.length_eq hc (by omega) hcm (fun t ht=>HS.out t (hR.mem_iff.1 ht)) g w2 w3 hS3)
  rw [compact_sorted HV.out hR hsR] at HC3
  unfold eqV at HC3
  have HSub:Hid ((sortT l).length ≤ l.length∧0 < (sortT l).length):=Lib.hid (by
   have hlen:=compact_len R R.length (Nat.le_refl _)
   rw [List.take_length,compact_sorted HV.out hR hsR,hR.length_eq] at hlen
   refine ⟨hlen,?_⟩
   obtain ⟨x,hx⟩:=List.exists_mem_of_length_pos hp
   exact List.length_pos_of_mem ((sortT_mem HV.out x).2 hx)
   )
  clear hS3 hR hsR HC2
  go_wp2_with fail
  refine HC3.out.mono ?_
  rintro e w4 ⟨rfl,hS4⟩
  have HFin:Hid (triK.sl.M w4 (fun k=>w.heap.size ≤ k∧k < w4.heap.size) (sortT l) [.slice (some ⟨g,0,none⟩) (sortT l).length cap]∧Below w.heap.size w w4):=Lib.hid (by
   refine ⟨hS4.own HSub.out.2 (fun t ht=>HF.out t ((sortT_mem HV.out t).1 ht)) (by have:=HSub.out.1;omega) (by have:=HSub.out.1;omega) hcm _ ⟨hg,Nat.lt_of_lt_of_le hlt hS4.grown.size⟩,?_⟩
   exact Below.grown HB2.out hS4.grown HB2.out.size (fun j hj=>by cases hj;exact hg))
  clear hS4 HC3
  go_wp2
  go_ret
  exact ⟨_,_,rfl,HFin.out⟩
end Go.Proofs.YtnplommdgfgboaaGreatDoor.SortW
namespace Go.Proofs.YtnplommdgfgboaaGreatDoor.Prg
open Go.RowKit Go.Lib B Rd Utf TermPure LinesPure Tx Env Bld Tc
open Go.Proofs.YtnplommdgfgboaaGreatDoor.Ref5 (termV Fits tripleV FitsT up_len run_fst_len run_snd_len low_len zeroTr T9 oneV FitsO Next)
set_option maxHeartbeats 1600000 in
theorem until_bad_calls (rb:Nat) (l:List UInt8) (stop:UInt8) (lit:Bool) (w:World) (h:At w rb l true) :
  Calls Tryz.prog 205 #[.pointer (some ⟨rb,0,none⟩),.int .i32 (stop.toNat:Int),.bool lit] w fun e w'=>(∃ o,e = .returned (.string (mkS o)))∧Step w w' rb l true:=by
 have hlt:=h.lt
 have HS0:=Lib.hid ((Step.refl h).alloc (.cells #[.pointer none,.slice none 0 0] 161))
 have HB0:=Lib.hid (Bld.new w)
 obtain ⟨c0,c1,f0,f1,_⟩:=h
 go_enter Tryz.func205,Tryz.ntmps205
 go_wp2
 go_step3
 go_wp2
 go_step3
 go_wp2
 go_loopg [] 0 (fun n wr=>wr = w.alloc (.cells #[.pointer none,.slice none 0 0] 161))
 case atStart=>rfl
 case round =>
  subst hrel
  go_wp2_with fail
  refine (string_calls _ _ [] _ HB0.out (by simp)).mono ?_
  rintro e w2 ⟨rfl,_,hb2⟩
  have HS2:=Lib.hid (HS0.out.belowB hb2 hlt)
  clear hb2
  go_wp2
  rw [Exit.noGoto_ret]
  go_ret
  exact ⟨⟨_,rfl⟩,HS2.out⟩
set_option maxHeartbeats 1600000 in
theorem iri_calls (rb:Nat) (l:List UInt8) (hv:validD l = true) (w:World) (he:Env w) (hrb:lowB ≤ rb) (h:At w rb l false) :
  Calls Tryz.prog 161 #[.pointer (some ⟨rb,0,none⟩)] w fun e w'=>UntPost w rb (if ([60]:List UInt8).isPrefixOf l = true then up 62 false false (l.drop 1) else none) e w':=by
 have HM:=Lib.hid (must_calls rb l [60] w h)
 have HE:=Lib.hid he
 have HV:=Lib.hid (valid_drop [60] (by decide) l)
 have HVl:=Lib.hid hv
 clear h he hv
 cases hp:([60]:List UInt8).isPrefixOf l with
 | true =>
  rw [hp] at HM
  simp only [if_true,Bool.not_true,List.length_cons,List.length_nil,Nat.zero_add] at HM
  have HVq:=Lib.hid (HV.out hp HVl.out)
  simp only [List.length_cons,List.length_nil,Nat.zero_add] at HVq
  rw [if_pos rfl]
  clear hp HV
  generalize l.drop 1 = q at *
  go_enter Tryz.func161,Tryz.ntmps161
  go_wp2_with fail
  refine HM.out.mono ?_
  rintro e w1 ⟨rfl,hs1⟩
  have HS1:=Lib.hid hs1
  have HE1:=Lib.hid (HE.out.step hs1 hrb)
  clear hs1 HM
  go_wp2_with fail
  refine (until_calls rb q 62 (by decide) (by decide) false HVq.out _ HE1.out hrb HS1.out.at').mono ?_
  intro e w2 hp
  cases hu:up 62 false false q with
  | none =>
   rw [hu] at hp
   obtain ⟨o,s,rfl,hs2⟩:=hp
   have HS2:=Lib.hid (HS1.out.trans hs2)
   have HU:=Lib.hid hu
   clear hs2 hu
   go_wp2
   go_ret
   rw [HU.out]
   exact ⟨_,_,rfl,HS2.out⟩
  | some p =>
   obtain ⟨o,r⟩:=p
   rw [hu] at hp
   obtain ⟨rfl,hs2,hvr⟩:=hp
   have HS2:=Lib.hid (HS1.out.trans hs2)
   have HU:=Lib.hid hu
   have HVr:=Lib.hid hvr
   clear hs2 hu hvr
   go_wp2
   go_ret
   rw [HU.out]
   exact ⟨rfl,HS2.out,HVr.out⟩
 | false =>
  rw [hp] at HM
  simp only [Bool.false_eq_true,if_false,Bool.not_false] at HM
  rw [if_neg (by decide)]
  clear hp HV
  go_enter Tryz.func161,Tryz.ntmps161
  go_wp2_with fail
  refine HM.out.mono ?_
  rintro e w1 ⟨rfl,hs1⟩
  have HS1:=Lib.hid hs1
  clear hs1 HM
  go_wp2_with fail
  refine (until_bad_calls rb l 62 false _ HS1.out.at').mono ?_
  rintro e w2 ⟨⟨o,rfl⟩,hs2⟩
  have HS2:=Lib.hid (HS1.out.trans hs2)
  clear hs2
  go_wp2
  go_ret
  exact ⟨_,_,rfl,HS2.out⟩
def PTermPost (w:World) (rb:Nat) (r:Option (Term × List UInt8)) (e:Ending) (w':World):Prop:=match r with
 | none=>(∃ t:Term,e = .returned (termV t))∧∃ s,Step w w' rb s true
 | some (t,q)=>(e = .returned (termV t)∧Fits t)∧Step w w' rb q false∧validD q = true
theorem toLower_calls (u:List UInt8) (hu:u.length ≤ 140737488355328) (ha:∀ b ∈ u,b.toNat < 128) (w:World) :
  Calls Tryz.prog 208 #[.string (mkS u)] w fun e w'=>e = .returned (.string (mkS (toLowerA u)))∧Below w.heap.size w w':=
 Tryz.strings_ToLower_ascii (mkS u) w (by rw [mkS_size];exact hu) (fun j b hb=>ha b (List.mem_of_getElem? hb))
set_option maxRecDepth 100000 in
set_option maxHeartbeats 6400000 in
theorem literal_calls (rb:Nat) (l:List UInt8) (hv:validD l = true) (w:World) (he:Env w) (hrb:lowB ≤ rb) (h:At w rb l false) :
  Calls Tryz.prog 165 #[.pointer (some ⟨rb,0,none⟩)] w fun e w'=>PTermPost w rb (literal false l) e w':=by
 have hlt:=h.lt
 have hlen:=h.len
 have HS0:=Lib.hid ((Step.refl h).alloc (.cells #[.int .i64 0,.string (mkS []),.string (mkS [])] 24))
 have T0:=Lib.hid (TC.new w zeroT)
 have HE0:=Lib.hid (he.below (bel_alloc (Below.refl _ _) (.cells #[.int .i64 0,.string (mkS []),.string (mkS [])] 24)))
 have HVl:=Lib.hid hv
 have hn1:¬ w.heap.size = rb:=by omega
 have HL:Hid (literal false l = match up 34 true true l with
 | none=>none
 | some (t,r) =>
  if [64].isPrefixOf r = true then some (⟨4,t,toLowerA (run true (r.drop 1)).1⟩,(run true (r.drop 1)).2)
  else if [94,94].isPrefixOf r = true then
   if [60].isPrefixOf (r.drop 2) = true then (up 62 false false (r.drop 3)).map fun x=>(⟨5,t,x.1⟩,x.2)
   else if false = true then some (⟨3,t,[]⟩,r) else none
  else some (⟨3,t,[]⟩,r)):=Lib.hid rfl
 clear h he hv
 go_enter Tryz.func165,Tryz.ntmps165
 go_wp2_with fail
 refine (until_calls rb l 34 (by decide) (by decide) true HVl.out _ HE0.out hrb HS0.out.at').mono ?_
 intro e w1 hp
 have UL:=up_len 34 true true l.length l (Nat.le_refl _)
 cases hu:up 34 true true l with
 | none =>
  rw [hu] at hp HL
  obtain ⟨o,s,rfl,hs1⟩:=hp
  have HS1:=Lib.hid (HS0.out.trans hs1)
  have T1:=Lib.hid (T0.out.grown hs1.grown hn1)
  have hz1:w.heap.size < w1.heap.size:=T1.out.lt
  have hn2:¬ w1.heap.size = rb:=by omega
  have hn3:¬ w1.heap.size = w.heap.size:=by omega
  have hn4:¬ w.heap.size = w1.heap.size:=by omega
  have HS2:=Lib.hid (HS1.out.alloc (.cells #[.int .i64 3,.string (mkS o),.string (mkS [])] 24))
  have T2:=Lib.hid (T1.out.alloc (.cells #[.int .i64 3,.string (mkS o),.string (mkS [])] 24))
  have T3:=Lib.hid (TC.new w1 ⟨3,o,[]⟩)
  clear hs1 hu UL
  go_wp2_with fail
  refine (is_bad_calls rb s [64] _ HS2.out.at').mono ?_
  rintro e w2 ⟨rfl,rfl⟩
  go_wp2_with fail
  refine (is_bad_calls rb s [94,94] _ HS2.out.at').mono ?_
  rintro e w2 ⟨rfl,rfl⟩
  obtain ⟨m0,m1,m2,m3,m4,m5⟩:=T1.out
  simp only [Nat.zero_add] at m1 m2 m4 m5
  dsimp only [zeroT] at *
  go_wp2
  refine bodyPost_ret (v:=termV ⟨3,o,[]⟩) (by simp [results,Tryz.results165,go_sem,hn1,hn2,hn3,hn4,hz1,m0,m1,m2,termV,mkS_nil]) rfl ?_
  rw [HL.out]
  refine ⟨⟨_,rfl⟩,s,?_⟩
  clear m0 m1 m2 m3 m4 m5
  repeat first | exact HS2.out | exact HS1.out | refine Step.alloc ?_ _ | refine Step.other ?_ (by omega) (by omega) _
 | some p =>
  obtain ⟨t,r⟩:=p
  have hlen2:=UL t r hu
  rw [hu] at hp HL
  obtain ⟨rfl,hs1,hvr⟩:=hp
  dsimp only at HL
  have HS1:=Lib.hid (HS0.out.trans hs1)
  have T1:=Lib.hid (T0.out.grown hs1.grown hn1)
  have HE1:=Lib.hid (HE0.out.step hs1 hrb)
  have HV1:=Lib.hid hvr
  have hz1:w.heap.size < w1.heap.size:=T1.out.lt
  have hn2:¬ w1.heap.size = rb:=by omega
  have hn3:¬ w1.heap.size = w.heap.size:=by omega
  have hn4:¬ w.heap.size = w1.heap.size:=by omega
  have HS2:=Lib.hid (HS1.out.alloc (.cells #[.int .i64 3,.string (mkS t),.string (mkS [])] 24))
  have HE2:=Lib.hid (HE1.out.below (bel_alloc (Below.refl _ _) (.cells #[.int .i64 3,.string (mkS t),.string (mkS [])] 24)))
  have T2:=Lib.hid (T1.out.alloc (.cells #[.int .i64 3,.string (mkS t),.string (mkS [])] 24))
  have T3:=Lib.hid (TC.new w1 ⟨3,t,[]⟩)
  have ML:=Lib.hid (valid_drop [64] (by decide) r)
  have MC:=Lib.hid (valid_drop [94,94] (by decide) r)
  clear hs1 hu UL hvr
  go_wp2_with fail
  refine (is_calls rb r [64] _ HS2.out.at').mono ?_
  rintro e w2 ⟨rfl,hs2⟩
  have HS3:=Lib.hid (HS2.out.trans hs2)
  have HE3:=Lib.hid (HE2.out.step hs2 hrb)
  have U2:=Lib.hid (T2.out.grown hs2.grown hn1)
  have U3:=Lib.hid (T3.out.grown hs2.grown hn2)
  have hz2:w1.heap.size < w2.heap.size:=U3.out.lt
  clear hs2
  cases c1:([64]:List UInt8).isPrefixOf r with
  | true =>
   have HD:=Lib.hid (HL.out.trans (if_pos c1))
   have HVq:=Lib.hid (ML.out c1 HV1.out)
   rw [c1] at HS3
   simp only [if_true,List.length_cons,List.length_nil,Nat.zero_add] at HS3 HVq
   have hql:(r.drop 1).length ≤ r.length:=by simp
   clear c1 HL ML MC
   generalize r.drop 1 = q at *
   obtain ⟨k0,k1,k2,k3,k4,k5⟩:=U3.out
   simp only [Nat.zero_add] at k1 k2 k4 k5
   dsimp only [zeroT] at *
   go_wp2_with fail
   have HS4:=Lib.hid (HS3.out.other (g:=w1.heap.size) (j:=0) (by omega) hn2 (.int .i64 4))
   have X2:=Lib.hid (U2.out.other (g':=w1.heap.size) (j:=0) hn4 (.int .i64 4))
   refine (while_calls rb q _ true tells_dash _ HS4.out.at').mono ?_
   rintro e w3 ⟨rfl,hs5⟩
   have HS5:=Lib.hid (HS4.out.trans hs5)
   have Y2:=Lib.hid (X2.out.grown hs5.grown hn1)
   have Z3:Hid (TC w3 w1.heap.size 0 ⟨4,t,[]⟩):=Lib.hid ((U3.out.setK 4).grown hs5.grown hn2)
   have hz3:w1.heap.size < w3.heap.size:=Z3.out.lt
   have hrl:=run_fst_len true q
   have hra:=run_ascii true q
   have HVr:=Lib.hid (run_valid true q HVq.out)
   generalize run true q = pr at *
   obtain ⟨ru,rq⟩:=pr
   dsimp only at *
   have HA:=Lib.hid hra
   clear k0 k1 k2 k3 k4 k5
   clear hs5 hra
   go_wp2_with fail
   refine (toLower_calls ru (by omega) HA.out _).mono ?_
   rintro e w4 ⟨rfl,hb6⟩
   have HS6:=Lib.hid (HS5.out.below hb6)
   have V2:=Lib.hid (Y2.out.below hb6)
   have V3:=Lib.hid (Z3.out.below hb6)
   have hll:=low_len ru
   generalize toLowerA ru = lo at *
   clear hb6
   obtain ⟨m0,m1,m2,m3,m4,m5⟩:=V2.out
   simp only [Nat.zero_add] at m1 m2 m4 m5
   dsimp only [zeroT] at *
   obtain ⟨k0,k1,k2,k3,k4,k5⟩:=V3.out
   simp only [Nat.zero_add] at k1 k2 k4 k5
   dsimp only [zeroT] at *
   go_wp2
   refine bodyPost_ret (v:=termV ⟨4,t,lo⟩) (by simp [results,Tryz.results165,go_sem,hn1,hn2,hn3,hn4,hz1,m0,m1,m2,termV,mkS_nil]) rfl ?_
   rw [HD.out]
   refine ⟨⟨rfl,by simp,by simp;omega,by simp;omega⟩,?_,HVr.out⟩
   clear m0 m1 m2 m3 m4 m5
   clear k0 k1 k2 k3 k4 k5
   repeat first | exact HS6.out | refine Step.alloc ?_ _ | refine Step.other ?_ (by omega) (by omega) _
  | false =>
   have HD:=Lib.hid (HL.out.trans (if_neg (by rw [c1];decide)))
   rw [c1] at HS3
   simp only [Bool.false_eq_true,if_false] at HS3
   clear c1 HL ML
   go_wp2_with fail
   refine (is_calls rb r [94,94] _ HS3.out.at').mono ?_
   rintro e w3 ⟨rfl,hs4⟩
   have HS4:=Lib.hid (HS3.out.trans hs4)
   have HE4:=Lib.hid (HE3.out.step hs4 hrb)
   have X2:=Lib.hid (U2.out.grown hs4.grown hn1)
   have X3:=Lib.hid (U3.out.grown hs4.grown hn2)
   have hz3:w1.heap.size < w3.heap.size:=X3.out.lt
   clear hs4
   cases c2:([94,94]:List UInt8).isPrefixOf r with
   | true =>
    have HD2:=Lib.hid (HD.out.trans (if_pos c2))
    have HVq:=Lib.hid (MC.out c2 HV1.out)
    rw [c2] at HS4
    simp only [if_true,List.length_cons,List.length_nil,Nat.zero_add,Nat.reduceAdd] at HS4 HVq
    rw [show r.drop 3 = (r.drop 2).drop 1 by rw [List.drop_drop]] at HD2
    have hql:(r.drop 2).length ≤ r.length:=by simp
    clear c2 HD MC
    generalize r.drop 2 = q at *
    obtain ⟨k0,k1,k2,k3,k4,k5⟩:=X3.out
    simp only [Nat.zero_add] at k1 k2 k4 k5
    dsimp only [zeroT] at *
    go_wp2_with fail
    have HS5:=Lib.hid (HS4.out.other (g:=w1.heap.size) (j:=0) (by omega) hn2 (.int .i64 5))
    have HE5:=Lib.hid (HE4.out.set (g:=w1.heap.size) (j:=0) (by omega) (.int .i64 5))
    have Y2:=Lib.hid (X2.out.other (g':=w1.heap.size) (j:=0) hn4 (.int .i64 5))
    have Y3:Hid (TC (w3.setCell ⟨w1.heap.size,0,none⟩ (.int .i64 5)) w1.heap.size 0 ⟨5,t,[]⟩):=Lib.hid (X3.out.setK 5)
    refine (iri_calls rb q HVq.out _ HE5.out hrb HS5.out.at').mono ?_
    intro e w4 hp
    have HQ:Hid (literal false l = (if ([60]:List UInt8).isPrefixOf q = true then up 62 false false (q.drop 1) else none).map fun x=>(⟨5,t,x.1⟩,x.2)):=Lib.hid (by
     rw [HD2.out]
     split
     ·
      rfl
     ·
      rfl)
    have UL2:=up_len 62 false false (q.drop 1).length (q.drop 1) (Nat.le_refl _)
    have hU:∀ o r',(if ([60]:List UInt8).isPrefixOf q = true then up 62 false false (q.drop 1) else none) = some (o,r') → o.length + r'.length ≤ q.length:=fun o r' h=>by
     split at h
     ·
      have:=UL2 o r' h
      simp at this
      omega
     ·
      cases h
    clear k0 k1 k2 k3 k4 k5
    clear HD2 UL2
    generalize (if ([60]:List UInt8).isPrefixOf q = true then up 62 false false (q.drop 1) else none) = R at *
    cases R with
    | none =>
     obtain ⟨o,s,rfl,hs6⟩:=hp
     have HS6:=Lib.hid (HS5.out.trans hs6)
     have W2:=Lib.hid (Y2.out.grown hs6.grown hn1)
     have W3:=Lib.hid (Y3.out.grown hs6.grown hn2)
     have hz4:w1.heap.size < w4.heap.size:=W3.out.lt
     clear hs6
     clear hU
     obtain ⟨m0,m1,m2,m3,m4,m5⟩:=W2.out
     simp only [Nat.zero_add] at m1 m2 m4 m5
     dsimp only [zeroT] at *
     obtain ⟨k0,k1,k2,k3,k4,k5⟩:=W3.out
     simp only [Nat.zero_add] at k1 k2 k4 k5
     dsimp only [zeroT] at *
     go_wp2
     refine bodyPost_ret (v:=termV ⟨5,t,o⟩) (by simp [results,Tryz.results165,go_sem,hn1,hn2,hn3,hn4,hz1,m0,m1,m2,termV,mkS_nil]) rfl ?_
     rw [HQ.out]
     refine ⟨⟨_,rfl⟩,s,?_⟩
     clear m0 m1 m2 m3 m4 m5
     clear k0 k1 k2 k3 k4 k5
     repeat first | exact HS6.out | refine Step.alloc ?_ _ | refine Step.other ?_ (by omega) (by omega) _
    | some p2 =>
     obtain ⟨o,r'⟩:=p2
     obtain ⟨rfl,hs6,hv6⟩:=hp
     have hol:=hU o r' rfl
     have HV6:=Lib.hid hv6
     have HS6:=Lib.hid (HS5.out.trans hs6)
     have W2:=Lib.hid (Y2.out.grown hs6.grown hn1)
     have W3:=Lib.hid (Y3.out.grown hs6.grown hn2)
     have hz4:w1.heap.size < w4.heap.size:=W3.out.lt
     clear hs6
     clear hU hv6
     obtain ⟨m0,m1,m2,m3,m4,m5⟩:=W2.out
     simp only [Nat.zero_add] at m1 m2 m4 m5
     dsimp only [zeroT] at *
     obtain ⟨k0,k1,k2,k3,k4,k5⟩:=W3.out
     simp only [Nat.zero_add] at k1 k2 k4 k5
     dsimp only [zeroT] at *
     go_wp2
     refine bodyPost_ret (v:=termV ⟨5,t,o⟩) (by simp [results,Tryz.results165,go_sem,hn1,hn2,hn3,hn4,hz1,m0,m1,m2,termV,mkS_nil]) rfl ?_
     rw [HQ.out]
     refine ⟨⟨rfl,by simp,by simp;omega,by simp;omega⟩,?_,HV6.out⟩
     clear m0 m1 m2 m3 m4 m5
     clear k0 k1 k2 k3 k4 k5
     repeat first | exact HS6.out | refine Step.alloc ?_ _ | refine Step.other ?_ (by omega) (by omega) _
   | false =>
    have HD2:=Lib.hid (HD.out.trans (if_neg (by rw [c2];decide)))
    rw [c2] at HS4
    simp only [Bool.false_eq_true,if_false] at HS4
    clear c2 HD MC
    obtain ⟨m0,m1,m2,m3,m4,m5⟩:=X2.out
    simp only [Nat.zero_add] at m1 m2 m4 m5
    dsimp only [zeroT] at *
    obtain ⟨k0,k1,k2,k3,k4,k5⟩:=X3.out
    simp only [Nat.zero_add] at k1 k2 k4 k5
    dsimp only [zeroT] at *
    go_wp2
    refine bodyPost_ret (v:=termV ⟨3,t,[]⟩) (by simp [results,Tryz.results165,go_sem,hn1,hn2,hn3,hn4,hz1,m0,m1,m2,termV,mkS_nil]) rfl ?_
    rw [HD2.out]
    refine ⟨⟨rfl,by simp,by simp;omega,by simp⟩,?_,HV1.out⟩
    clear m0 m1 m2 m3 m4 m5
    clear k0 k1 k2 k3 k4 k5
    repeat first | exact HS4.out | refine Step.alloc ?_ _ | refine Step.other ?_ (by omega) (by omega) _
end Go.Proofs.YtnplommdgfgboaaGreatDoor.Prg
namespace Go.Proofs.YtnplommdgfgboaaGreatDoor.Prg
open Go.RowKit Go.Lib B Rd Utf TermPure LinesPure Tx Env Bld Tc
structure Holds (w:World) (g:Nat) (lb:Array Value) (p:Nat → Bool):Prop where
 enters:∀ args w,(callFunc g args).run Tryz.prog w = .ok (.enter g args) w
 tells:PredGrows Tryz.prog g lb p w
theorem Holds.later {w W:World} {g:Nat} {lb:Array Value} {p:Nat → Bool} (h:Holds w g lb p) (hb:Below w.heap.size w W):Holds W g lb p:=⟨h.enters,h.tells.later hb⟩
set_option maxHeartbeats 800000 in
theorem not_calls (B g c:Nat) (lb:Array Value) (p:Nat → Bool) (hc:c ≤ 1114111) (w0 w:World) (hp:Holds w0 g lb p) (hb:Below w0.heap.size w0 w) (hcell:w.cell? ⟨B,0,none⟩ = some (.func (.func g) #[] lb)) :
  Calls Tryz.prog 246 #[.int .i32 (c:Int),.pointer (some ⟨B,0,none⟩)] w fun e w'=>e = .returned (.bool (!p c))∧Below w.heap.size w w':=by
 have hC:=hp.tells w c hc hb
 have heg:=hp.enters
 have HC:=Lib.hid hC
 clear hC hp hb
 go_enter Tryz.func246,Tryz.ntmps246
 go_wp2_with fail
 refine HC.out.mono ?_
 rintro e w1 ⟨rfl,hb1⟩
 have HB:=Lib.hid hb1
 obtain ⟨q,hq⟩:∃ q,p c = q:=⟨_,rfl⟩
 have HQ:=Lib.hid hq
 rw [hq]
 clear hb1 hq
 cases q
 all_goals go_wp2
 all_goals go_ret
 all_goals exact ⟨ret_bool (by rw [HQ.out];rfl),HB.out⟩
theorem all_not (p:Nat → Bool) (l:List Nat):(!l.any fun c=>!p c) = l.all p:=by
 induction l with
 | nil=>rfl
 | cons c l ih=>rw [List.any_cons,List.all_cons,← ih];cases p c <;> rfl
set_option maxHeartbeats 800000 in
theorem all_calls (s:List UInt8) (g:Nat) (lb:Array Value) (p:Nat → Bool) (w:World) (hp:Holds w g lb p) :
  Calls Tryz.prog 220 #[.string (mkS s),.func (.func g) #[] lb] w fun e w'=>e = .returned (.bool ((runes s).all p))∧Below w.heap.size w w':=by
 have hW:Below w.heap.size w (w.alloc (.cells #[.func (.func g) #[] lb] 211)):=bel_alloc (Below.refl _ _) _
 have hcell:(w.alloc (.cells #[.func (.func g) #[] lb] 211)).cell? ⟨w.heap.size,0,none⟩ = some (.func (.func g) #[] lb):=by
  unfold World.cell?
  dsimp only
  rw [Kd.heap_new]
  try rfl
 have hC:Calls Tryz.prog 245 #[.string (mkS s),.func (.func 246) #[] #[.pointer (some ⟨w.heap.size,0,none⟩)]] (w.alloc (.cells #[.func (.func g) #[] lb] 211)) fun e w'=>e = .returned (.bool ((runes s).any fun c=>!p c))∧Below w.heap.size w w':=by
  refine (Tryz.strings_ContainsFunc_grows 246 #[.pointer (some ⟨w.heap.size,0,none⟩)] (enters_of Tryz.func246 (by kernel_rfl) rfl) (fun c=>!p c) (mkS s) _ ?_).mono ?_
  ·
   intro W x hx hb
   have hb':Below w.heap.size w W:=hW.trans (hb.mono (by simp))
   exact not_calls w.heap.size g x lb p hx w W hp hb' ((hb.cell (p:=⟨w.heap.size,0,none⟩) (by simp)).trans hcell)
  ·
   rintro e w' ⟨h1,h2⟩
   exact ⟨by rw [h1,contains_any],hW.trans (h2.mono (by simp))⟩
 have HC:=Lib.hid hC
 have HQ:=Lib.hid (all_not p (runes s))
 clear hC hW hcell hp
 obtain ⟨q,hq⟩:∃ q,((runes s).any fun c=>!p c) = q:=⟨_,rfl⟩
 rw [hq] at HC HQ
 clear hq
 go_enter Tryz.func220,Tryz.ntmps220
 go_wp2_with fail
 refine HC.out.mono ?_
 rintro e w1 ⟨rfl,hb1⟩
 have HB:=Lib.hid hb1
 clear hb1
 cases q
 all_goals go_wp2
 all_goals go_ret
 all_goals exact ⟨ret_bool (by rw [← HQ.out];rfl),HB.out⟩
theorem small1_calls (c:Nat) (w:World) :
  Calls Tryz.prog 227 #[.int .i32 (c:Int)] w fun e w'=>e = .returned (.bool (decide (97 ≤ c) && decide (c ≤ 122)))∧w = w':=by
 go_enter Tryz.func227,Tryz.ntmps227
 go_wp2
 all_goals go_ret
 all_goals exact ⟨ret_bool (by rw [Bool.eq_iff_iff];simp;omega),rfl⟩
theorem digit1_calls (c:Nat) (w:World) :
  Calls Tryz.prog 224 #[.int .i32 (c:Int)] w fun e w'=>e = .returned (.bool (decide (48 ≤ c) && decide (c ≤ 57)))∧w = w':=by
 go_enter Tryz.func224,Tryz.ntmps224
 go_wp2
 all_goals go_ret
 all_goals exact ⟨ret_bool (by rw [Bool.eq_iff_iff];simp;omega),rfl⟩
theorem letter1_calls (c:Nat) (w:World) :
  Calls Tryz.prog 223 #[.int .i32 (c:Int)] w fun e w'=>e = .returned (.bool ((decide (97 ≤ c) && decide (c ≤ 122)) || (decide (65 ≤ c) && decide (c ≤ 90))))∧w = w':=by
 go_enter Tryz.func223,Tryz.ntmps223
 go_wp2_with fail
 refine (small1_calls c _).mono ?_
 rintro e w1 ⟨rfl,rfl⟩
 obtain ⟨q,hq⟩:∃ q,(decide (97 ≤ c) && decide (c ≤ 122)) = q:=⟨_,rfl⟩
 have HQ:=Lib.hid hq
 rw [hq]
 clear hq
 cases q
 all_goals go_wp2
 all_goals go_ret
 all_goals exact ⟨ret_bool (by rw [HQ.out,Bool.eq_iff_iff];simp;try omega),rfl⟩
theorem label1_calls (c:Nat) (w:World) :
  Calls Tryz.prog 222 #[.int .i32 (c:Int)] w fun e w'=>e = .returned (.bool (alnum c))∧w = w':=by
 have HA:Hid (alnum c = (((decide (97 ≤ c) && decide (c ≤ 122)) || (decide (65 ≤ c) && decide (c ≤ 90))) || (decide (48 ≤ c) && decide (c ≤ 57)))):=Lib.hid rfl
 go_enter Tryz.func222,Tryz.ntmps222
 go_wp2_with fail
 refine (letter1_calls c _).mono ?_
 rintro e w1 ⟨rfl,rfl⟩
 generalize ((decide (97 ≤ c) && decide (c ≤ 122)) || (decide (65 ≤ c) && decide (c ≤ 90))) = q at *
 cases q
 ·
  go_wp2_with fail
  refine (digit1_calls c _).mono ?_
  rintro e w1 ⟨rfl,rfl⟩
  generalize (decide (48 ≤ c) && decide (c ≤ 57)) = r at *
  cases r
  all_goals go_wp2
  all_goals go_ret
  all_goals exact ⟨ret_bool (by rw [HA.out];rfl),rfl⟩
 ·
  go_wp2
  go_ret
  exact ⟨ret_bool (by rw [HA.out];rfl),rfl⟩
def oddL:List UInt8:=[34,60,62,92,94,96,123,124,125]
theorem odd_eq:∀ n:Fin 128,oddL.contains (UInt8.ofNat n.val) = odd.contains n.val:=by decide +kernel
set_option maxHeartbeats 800000 in
theorem rune1_calls (c:Nat) (hc:c ≤ 1114111) (w:World) :
  Calls Tryz.prog 221 #[.int .i32 (c:Int)] w fun e w'=>e = .returned (.bool (iriRune c))∧w = w':=by
 have HA:Hid (iriRune c = ((decide (32 < c) && decide (c < 127) && !odd.contains c) || (decide (160 ≤ c)))):=Lib.hid rfl
 by_cases h1:32 < c
 ·
  by_cases h2:c < 127
  ·
   have e1:decide ((32:Int) < (c:Int)) = true:=decide_eq_true (by omega)
   have e2:decide ((c:Int) < 127) = true:=decide_eq_true (by omega)
   have e3:decide ((160:Int) ≤ (c:Int)) = false:=decide_eq_false (by omega)
   have HO:=Lib.hid (odd_eq ⟨c,by omega⟩)
   have HF:=Lib.hid (HA.out.trans (show _ = !odd.contains c by rw [decide_eq_true h1,decide_eq_true h2,decide_eq_false (by omega:¬ 160 ≤ c)];simp))
   go_enter Tryz.func221,Tryz.ntmps221
   go_wp2_with fail
   refine (containsRune_calls oddL c (by omega) _).mono ?_
   rintro e w1 ⟨rfl,rfl⟩
   rw [HO.out]
   dsimp only
   generalize odd.contains c = q at *
   clear HA HO h1 h2
   cases q
   all_goals go_wp2
   all_goals go_ret
   all_goals exact ⟨ret_bool (by rw [HF.out];rfl),rfl⟩
  ·
   have e1:decide ((32:Int) < (c:Int)) = true:=decide_eq_true (by omega)
   have e2:decide ((c:Int) < 127) = false:=decide_eq_false (by omega)
   have HF:=Lib.hid (HA.out.trans (show _ = decide ((160:Int) ≤ (c:Int)) by rw [decide_eq_true h1,decide_eq_false h2,Bool.eq_iff_iff];simp;try omega))
   clear HA h1 h2
   go_enter Tryz.func221,Tryz.ntmps221
   go_wp2
   all_goals go_ret
   all_goals exact ⟨ret_bool (by first | (rw [HF.out];done) | (rw [HF.out];rfl)),rfl⟩
 ·
  have e1:decide ((32:Int) < (c:Int)) = false:=decide_eq_false (by omega)
  have e3:decide ((160:Int) ≤ (c:Int)) = false:=decide_eq_false (by omega)
  have HF:=Lib.hid (HA.out.trans (show _ = false by rw [decide_eq_false h1,decide_eq_false (by omega:¬ 160 ≤ c)];rfl))
  clear HA h1
  go_enter Tryz.func221,Tryz.ntmps221
  go_wp2
  go_ret
  exact ⟨ret_bool HF.out.symm,rfl⟩
theorem holds_rune (w:World):Holds w 221 #[] iriRune:=
 ⟨enters_of Tryz.func221 (by kernel_rfl) rfl,fun W x hx hb=>(rune1_calls x hx W).mono fun e w' ⟨h1,h2⟩=>⟨h1,h2 ▸ Below.refl _ _⟩⟩
theorem holds_label (w:World):Holds w 222 #[] alnum:=
 ⟨enters_of Tryz.func222 (by kernel_rfl) rfl,fun W x hx hb=>(label1_calls x W).mono fun e w' ⟨h1,h2⟩=>⟨h1,h2 ▸ Below.refl _ _⟩⟩
set_option maxHeartbeats 1600000 in
theorem isIRI_calls (s:List UInt8) (hs:s.length ≤ 70368744177664) (w:World) (he:Env w) :
  Calls Tryz.prog 191 #[.string (mkS s)] w fun e w'=>e = .returned (.bool (isIRI s))∧Below w.heap.size w w':=by
 have z:=mkS_size s
 have zt:=mkS_toList s
 have HE:=Lib.hid he
 have HI:Hid (isIRI s = (decide (s ≠ []) && (decide (s.length ≤ 60) && (validD s && (runes s).all iriRune)))):=Lib.hid rfl
 have HA:=Lib.hid (fun w=>all_calls s 221 #[] iriRune w (holds_rune w))
 clear he
 by_cases h0:s = []
 ·
  subst h0
  go_enter Tryz.func191,Tryz.ntmps191
  go_wp2
  go_ret
  exact ⟨rfl,Below.refl _ _⟩
 ·
  have hE:s.isEmpty = false:=by cases s with
   | nil=>exact absurd rfl h0
   | cons b t=>rfl
  by_cases h1:s.length ≤ 60
  ·
   have e1:decide ((s.length:Int) ≤ 60) = true:=decide_eq_true (by omega)
   have HI2:=Lib.hid (HI.out.trans (show _ = (validD s && (runes s).all iriRune) by rw [decide_eq_true h0,decide_eq_true h1];simp))
   clear HI
   go_enter Tryz.func191,Tryz.ntmps191
   go_wp2_with fail
   refine (valid_calls s (by omega) _ HE.out).mono ?_
   rintro e w1 ⟨rfl,hb1⟩
   have HB1:=Lib.hid hb1
   clear hb1
   generalize validD s = v at *
   cases v
   ·
    go_wp2
    go_ret
    exact ⟨ret_bool (by rw [HI2.out];rfl),HB1.out⟩
   ·
    go_wp2_with fail
    refine (HA.out _).mono ?_
    rintro e w2 ⟨rfl,hb2⟩
    have HB2:=Lib.hid (bel_step HB1.out hb2)
    clear hb2
    generalize (runes s).all iriRune = q at *
    cases q
    all_goals go_wp2
    all_goals go_ret
    all_goals exact ⟨ret_bool (by rw [HI2.out];rfl),HB2.out⟩
  ·
   have e1:decide ((s.length:Int) ≤ 60) = false:=decide_eq_false (by omega)
   have HI2:=Lib.hid (HI.out.trans (show _ = false by rw [decide_eq_false h1];simp))
   clear HI
   go_enter Tryz.func191,Tryz.ntmps191
   go_wp2
   go_ret
   exact ⟨ret_bool HI2.out.symm,Below.refl _ _⟩
end Go.Proofs.YtnplommdgfgboaaGreatDoor.Prg
namespace Go.Proofs.YtnplommdgfgboaaGreatDoor.SplitP
open Go.Lib B Rd TermPure
def splitL:List UInt8 → List (List UInt8)
 | []=>[[]]
 | b :: l=>if b = 45 then [] :: splitL l else match splitL l with
  | []=>[[b]]
  | h :: t=>(b :: h) :: t
theorem splitL_ne:∀ l,splitL l ≠ []
 | []=>by simp [splitL]
 | b :: l=>by
  rw [splitL]
  split
  ·
   simp
  ·
   split <;> simp
theorem splitL_none:∀ l:List UInt8,(∀ b ∈ l,b ≠ 45) → splitL l = [l]
 | [],_=>rfl
 | b :: l,h=>by rw [splitL,if_neg (h b (by simp)),splitL_none l (fun x hx=>h x (by simp [hx]))]
theorem splitL_at:∀ (a r:List UInt8),(∀ b ∈ a,b ≠ 45) → splitL (a ++ 45 :: r) = a :: splitL r
 | [],r,_=>by rw [List.nil_append,splitL,if_pos rfl]
 | b :: a,r,h=>by rw [List.cons_append,splitL,if_neg (h b (by simp)),splitL_at a r (fun x hx=>h x (by simp [hx]))]
theorem split_dash:∀ (n:Nat) (l:List UInt8),l.length ≤ n → splitB (mkS [45]) 0 (countB (mkS l) (mkS [45])) (mkS l) = (splitL l).map mkS
 | n,l,hn=>by
  have hi:indexB (mkS l) (mkS [45]) = indexByte l 45:=Lib.one (mkS l) (mkS [45]) rfl
  have hge:=indexByte_ge l 45
  by_cases hm:indexByte l 45 = -1
  ·
   have hno:=indexByte_none hm
   have hall:∀ b ∈ l,b ≠ 45:=fun b hb e=>by
    obtain ⟨k,hk⟩:=List.mem_iff_getElem?.1 hb
    exact hno k (by rw [hk,e])
   rw [countB_miss _ _ (by rw [hi,hm]),splitB_zero,splitL_none l hall]
   try rfl
  ·
   obtain ⟨i,hio⟩:∃ i:Nat,indexByte l 45 = i:=⟨(indexByte l 45).toNat,by omega⟩
   obtain ⟨h1,h2⟩:=indexByte_some hio
   have hil:i < l.length:=(List.getElem?_eq_some_iff.1 h1).1
   have hl:l = l.take i ++ 45 :: l.drop (i + 1):=by
    conv=>lhs;rw [← List.take_append_drop i l]
    rw [List.drop_eq_getElem_cons hil,(List.getElem?_eq_some_iff.1 h1).2]
   have hno:∀ b ∈ l.take i,b ≠ 45:=fun b hb e=>by
    obtain ⟨k,hk⟩:=List.mem_iff_getElem?.1 hb
    rw [List.getElem?_take] at hk
    split at hk
    ·
     rename_i hki
     exact h2 k hki (by rw [hk,e])
    ·
     cases hk
   have hex:(mkS l).extract (i + (mkS [45]).size) (mkS l).size = mkS (l.drop (i + 1)):=by
    rw [mkS_extract,mkS_size,show (mkS [45]).size = 1 from rfl,List.take_of_length_le (by simp)]
   cases n with
   | zero=>omega
   | succ n =>
    have ih:=split_dash n (l.drop (i + 1)) (by rw [List.length_drop];omega)
    rw [countB_hit _ _ i (by decide) (by rw [hi,hio]),hex,Nat.add_comm 1,splitB_hit _ _ _ _ i (by rw [hi,hio]),hex,ih,mkS_extract]
    conv=>rhs;rw [hl]
    rw [splitL_at _ _ hno]
    simp
def okc (later:Bool) (b:UInt8):Bool:=(decide (97 ≤ b.toNat) && decide (b.toNat ≤ 122)) || (later && (decide (48 ≤ b.toNat) && decide (b.toNat ≤ 57)))
def partOk (later:Bool) (p:List UInt8):Bool:=!p.isEmpty && (decide (p.length ≤ 8) && p.all (okc later))
theorem lang_parts:∀ (l:List UInt8) (later:Bool) (n:Nat),n ≤ 8 → ∀ h t,splitL l = h :: t → langGo later n l = (decide (0 < n + h.length) && (decide (n + h.length ≤ 8) && (h.all (okc later) && t.all (partOk true))))
 | [],later,n,hn,h,t,hs=>by
  rw [splitL] at hs
  cases hs
  rw [langGo]
  simp
  intro _
  exact hn
 | b :: l,later,n,hn,h,t,hs=>by
  rw [splitL] at hs
  rw [langGo]
  by_cases hb:b = 45
  ·
   rw [if_pos hb] at hs
   rw [if_pos hb]
   cases hs
   cases hl:splitL l with
   | nil=>exact absurd hl (splitL_ne l)
   | cons h2 t2 =>
    rw [lang_parts l true 0 (by omega) h2 t2 hl,List.all_cons]
    have:partOk true h2 = (decide (0 < 0 + h2.length) && (decide (0 + h2.length ≤ 8) && h2.all (okc true))):=by
     unfold partOk
     rw [Nat.zero_add]
     cases h2 <;> simp
    rw [this]
    simp only [List.length_nil,Nat.add_zero,List.all_nil,Bool.true_and,decide_eq_true hn,Bool.and_assoc]
  ·
   rw [if_neg hb] at hs
   rw [if_neg hb]
   cases hl:splitL l with
   | nil=>exact absurd hl (splitL_ne l)
   | cons h2 t2 =>
    rw [hl] at hs
    cases hs
    have hc:((decide (97 ≤ b.toNat) && decide (b.toNat ≤ 122)) || (later && (decide (48 ≤ b.toNat) && decide (b.toNat ≤ 57)))) = okc later b:=rfl
    rw [hc,List.all_cons]
    cases ho:okc later b with
    | false=>simp
    | true =>
     rw [if_pos rfl]
     by_cases h8:n < 8
     ·
      rw [lang_parts l later (n + 1) (by omega) h2 _ hl,decide_eq_true h8]
      rw [List.length_cons,show n + 1 + h2.length = n + (h2.length + 1) by omega]
      simp only [Bool.true_and]
     ·
      rw [decide_eq_false h8]
      simp
      intro _ h9
      omega
theorem isLang_parts (s:List UInt8):∀ h t,splitL s = h :: t → isLang s = ((partOk false h && t.all (partOk true)) && decide (s.length ≤ 16)):=by
 intro h t hs
 unfold isLang
 rw [lang_parts s false 0 (by omega) h t hs]
 congr 1
 unfold partOk
 rw [Nat.zero_add]
 cases h <;> simp [Bool.and_assoc]
theorem splitL_count:∀ s:List UInt8,(splitL s).length ≤ s.length + 1
 | []=>by simp [splitL]
 | b :: l=>by
  have ih:=splitL_count l
  rw [splitL]
  split
  ·
   simp
   exact ih
  ·
   split
   ·
    simp
   ·
    rename_i h t hs
    rw [hs] at ih
    simp at ih ⊢
    omega
theorem splitL_len:∀ s:List UInt8,∀ x ∈ splitL s,x.length ≤ s.length
 | [],x,hx=>by
  rw [splitL] at hx
  simp at hx
  subst hx
  simp
 | b :: l,x,hx=>by
  have ih:=splitL_len l
  rw [splitL] at hx
  split at hx
  ·
   rcases List.mem_cons.1 hx with rfl | hx
   ·
    simp
   ·
    have:=ih x hx
    simp
    omega
  ·
   split at hx
   ·
    simp at hx
    subst hx
    simp
   ·
    rename_i h t hs
    rw [hs] at ih
    rcases List.mem_cons.1 hx with rfl | hx
    ·
     have:=ih h (by simp)
     simp
     exact this
    ·
     have:=ih x (by simp [hx])
     simp
     omega
end Go.Proofs.YtnplommdgfgboaaGreatDoor.SplitP
namespace Go.Proofs.YtnplommdgfgboaaGreatDoor.Prg
open Go.RowKit Go.Lib B Rd Utf TermPure LinesPure Tx Env Bld Tc SplitP
open Go.Proofs.YtnplommdgfgboaaGreatDoor.Ref5 (termV Fits tripleV FitsT isTriple_eq)
theorem runes_all (p:Nat → Bool) (hp:∀ c,128 ≤ c → p c = false):∀ (n:Nat) (s:List UInt8),s.length ≤ n → (runes s).all p = s.all (fun b=>p b.toNat)
 | n,[],_=>rfl
 | 0,b :: t,h=>by simp at h
 | n + 1,b :: t,h=>by
  simp at h
  by_cases hb:b.toNat < 128
  ·
   rw [runes_ascii b t hb,List.all_cons,List.all_cons,runes_all p hp n t h]
  ·
   have hd:128 ≤ (decodeL (b :: t)).1:=by
    have:=decodeL_drop (mkS (b :: t)) 0
    rw [show (mkS (b :: t)).data.toList.drop 0 = b :: t from rfl] at this
    rw [this]
    exact (decode_high (mkS (b :: t)) 0 (by rw [mkS_size];simp) (by show 128 ≤ b.toNat;omega)).1
   rw [runes_step _ (by simp),List.all_cons,List.all_cons,hp _ hd,hp _ (by omega)]
   try rfl
set_option maxHeartbeats 1600000 in
theorem isLabel_calls (s:List UInt8) (hs:s.length ≤ 70368744177664) (w:World) :
  Calls Tryz.prog 192 #[.string (mkS s)] w fun e w'=>e = .returned (.bool (isLabel s))∧Below w.heap.size w w':=by
 have z:=mkS_size s
 have zt:=mkS_toList s
 have HI:Hid (isLabel s = (decide (s ≠ []) && (decide (s.length ≤ 8) && (runes s).all alnum))):=Lib.hid (by
  rw [runes_all alnum (fun c h=>by unfold alnum;simp;omega) s.length s (Nat.le_refl _)]
  rfl)
 have HA:=Lib.hid (fun w=>all_calls s 222 #[] alnum w (holds_label w))
 by_cases h0:s = []
 ·
  subst h0
  go_enter Tryz.func192,Tryz.ntmps192
  go_wp2
  go_ret
  exact ⟨rfl,Below.refl _ _⟩
 ·
  have hE:s.isEmpty = false:=by cases s with
   | nil=>exact absurd rfl h0
   | cons b t=>rfl
  by_cases h1:s.length ≤ 8
  ·
   have e1:decide ((s.length:Int) ≤ 8) = true:=decide_eq_true (by omega)
   have HI2:=Lib.hid (HI.out.trans (show _ = (runes s).all alnum by rw [decide_eq_true h0,decide_eq_true h1];simp))
   clear HI
   go_enter Tryz.func192,Tryz.ntmps192
   go_wp2_with fail
   refine (HA.out _).mono ?_
   rintro e w2 ⟨rfl,hb2⟩
   have HB2:=Lib.hid hb2
   clear hb2
   generalize (runes s).all alnum = q at *
   cases q
   all_goals go_wp2
   all_goals go_ret
   all_goals exact ⟨ret_bool (by first | (rw [HI2.out];done) | (rw [HI2.out];rfl)),HB2.out⟩
  ·
   have e1:decide ((s.length:Int) ≤ 8) = false:=decide_eq_false (by omega)
   have HI2:=Lib.hid (HI.out.trans (show _ = false by rw [decide_eq_false h1];simp))
   clear HI
   go_enter Tryz.func192,Tryz.ntmps192
   go_wp2
   go_ret
   exact ⟨ret_bool HI2.out.symm,Below.refl _ _⟩
def langR (later:Bool) (c:Nat):Bool:=(decide (97 ≤ c) && decide (c ≤ 122)) || (later && (decide (48 ≤ c) && decide (c ≤ 57)))
set_option maxHeartbeats 800000 in
theorem lang1_calls (c k B:Nat) (w:World) (hcell:w.cell? ⟨B,0,none⟩ = some (.int .i64 (k:Int))) :
  Calls Tryz.prog 226 #[.int .i32 (c:Int),.pointer (some ⟨B,0,none⟩)] w fun e w'=>e = .returned (.bool (langR (decide (0 < k)) c))∧w = w':=by
 have HL:Hid (langR (decide (0 < k)) c = ((decide (97 ≤ c) && decide (c ≤ 122)) || (decide (0 < k) && (decide (48 ≤ c) && decide (c ≤ 57))))):=Lib.hid rfl
 go_enter Tryz.func226,Tryz.ntmps226
 go_wp2_with fail
 refine (small1_calls c _).mono ?_
 rintro e w1 ⟨rfl,rfl⟩
 generalize (decide (97 ≤ c) && decide (c ≤ 122)) = q at *
 cases q
 ·
  by_cases hk:0 < k
  ·
   have e1:decide (0 < k) = true:=decide_eq_true hk
   have i1:(0:Int) < (k:Int):=by omega
   rw [e1] at HL
   go_wp2_with fail
   refine (digit1_calls c _).mono ?_
   rintro e w1 ⟨rfl,rfl⟩
   generalize (decide (48 ≤ c) && decide (c ≤ 57)) = r at *
   cases r
   all_goals go_wp2
   all_goals go_ret
   all_goals exact ⟨ret_bool (by rw [e1,HL.out];rfl),rfl⟩
  ·
   have e1:decide (0 < k) = false:=decide_eq_false hk
   have i1:¬ (0:Int) < (k:Int):=by omega
   rw [e1] at HL
   go_wp2
   go_ret
   exact ⟨ret_bool (by rw [e1,HL.out];rfl),rfl⟩
 ·
  go_wp2
  go_ret
  exact ⟨ret_bool (by rw [HL.out];rfl),rfl⟩
theorem holds_lang (w:World) (k B:Nat) (hB:B < w.heap.size) (hcell:w.cell? ⟨B,0,none⟩ = some (.int .i64 (k:Int))) :
  Holds w 226 #[.pointer (some ⟨B,0,none⟩)] (langR (decide (0 < k))):=
 ⟨enters_of Tryz.func226 (by kernel_rfl) rfl,fun W x hx hb=>(lang1_calls x k B W ((hb.cell (p:=⟨B,0,none⟩) hB).trans hcell)).mono fun e w' ⟨h1,h2⟩=>⟨h1,h2 ▸ Below.refl _ _⟩⟩
theorem langR_all (later:Bool) (s:List UInt8):(runes s).all (langR later) = s.all (okc later):=by
 rw [runes_all (langR later) (fun c h=>by unfold langR;simp;omega) s.length s (Nat.le_refl _)]
 try rfl
def partsOk:Nat → List (List UInt8) → Bool
 | _,[]=>true
 | k,p :: t=>partOk (decide (0 < k)) p && partsOk (k + 1) t
theorem partsOk_later:∀ (t:List (List UInt8)) (k:Nat),0 < k → partsOk k t = t.all (partOk true)
 | [],_,_=>rfl
 | p :: t,k,h=>by rw [partsOk,List.all_cons,partsOk_later t (k + 1) (by omega),decide_eq_true h]
theorem isLang_eq (s:List UInt8):isLang s = (partsOk 0 (splitL s) && decide (s.length ≤ 16)):=by
 cases hs:splitL s with
 | nil=>exact absurd hs (splitL_ne s)
 | cons h t=>rw [isLang_parts s h t hs,partsOk,partsOk_later t 1 (by decide)];rfl
theorem split_calls (s:List UInt8) (hs:s.length ≤ 4294967000) (w:World) (he:Env w) :
  Calls Tryz.prog 225 #[.string (mkS s),.string (mkS [45])] w fun e w'=>e = .returned (.slice (some ⟨w.heap.size,0,none⟩) (splitL s).length (splitL s).length)∧w.alloc (.cells (((splitL s).map mkS).map Value.string).toArray 9) = w':=by
 obtain ⟨m,hm⟩:=he.len
 refine (Tryz.strings_Split (mkS s) (mkS [45]) m w (by rw [mkS_size];omega) hm (by decide)).mono ?_
 rintro e w' ⟨h1,h2⟩
 have h3:=split_dash s.length s (Nat.le_refl _)
 have h4:countB (mkS s) (mkS [45]) + 1 = (splitL s).length:=by
  have:=splitB_all (mkS [45]) (by decide) 0 _ (mkS s) rfl
  rw [h3,List.length_map] at this
  exact this.symm
 rw [h4] at h1
 rw [h3] at h2
 exact ⟨h1,h2.symm⟩
set_option maxRecDepth 100000 in
set_option maxHeartbeats 3200000 in
theorem isLang_calls (s:List UInt8) (hs:s.length ≤ 4294967000) (w:World) (he:Env w) :
  Calls Tryz.prog 193 #[.string (mkS s)] w fun e w'=>e = .returned (.bool (isLang s))∧Below w.heap.size w w':=by
 have HL:=Lib.hid (isLang_eq s)
 have HSp:=Lib.hid (split_calls s hs w he)
 have z:=mkS_size s
 have hcells:∀ j (h:j < (splitL s).length),(w.alloc (.cells (((splitL s).map mkS).map Value.string).toArray 9)).cell? ⟨w.heap.size,j,none⟩ = some (.string (mkS ((splitL s)[j]))):=fun j h=>by
  unfold World.cell?
  dsimp only
  rw [Kd.heap_new]
  simp
  exact ⟨_,List.getElem?_eq_getElem h,rfl⟩
 have HC0:=Lib.hid hcells
 have hpl:∀ x ∈ splitL s,x.length ≤ 70368744177664:=fun x hx=>by
  have:=splitL_len s x hx
  omega
 have HPL:=Lib.hid hpl
 have hns:(splitL s).length ≤ s.length + 1:=splitL_count s
 have HB0:=Lib.hid (bel_alloc (Below.refl w.heap.size w) (.cells (((splitL s).map mkS).map Value.string).toArray 9))
 clear he hcells hpl
 generalize splitL s = P at *
 generalize ((P.map mkS).map Value.string).toArray = C at *
 go_enter Tryz.func193,Tryz.ntmps193
 go_wp2_with fail
 refine HSp.out.mono ?_
 rintro e w1 ⟨rfl,rfl⟩
 clear HSp
 go_wp2
 go_loopw [8] (fun vi wr=>∃ k:Nat,k ≤ P.length∧vi = .int .i64 k∧Hid (Below w.heap.size w wr)∧Hid (w.heap.size < wr.heap.size)∧Hid (∀ j (h:j < P.length),wr.cell? ⟨w.heap.size,j,none⟩ = some (.string (mkS P[j])))∧Hid (partsOk 0 P = partsOk k (P.drop k))) (fun vi _=>P.length - (intOf vi).toNat)
 case atStart=>exact ⟨0,by omega,rfl,HB0,Lib.hid (by simp),HC0,Lib.hid rfl⟩
 case round =>
  obtain ⟨k,hk,rfl,HB,HZ,HC,HP⟩:=hrel
  by_cases hlt:k < P.length
  ·
   have hd:decide (k < P.length) = true:=decide_eq_true hlt
   have ik:(k:Int) < (P.length:Int):=by omega
   have ik0:(0:Int) ≤ (k:Int):=by omega
   obtain ⟨x,hx0⟩:∃ x,P[k] = x:=⟨_,rfl⟩
   have hcell:=HC.out k hlt
   rw [hx0] at hcell
   have HD:Hid (partsOk k (P.drop k) = (partOk (decide (0 < k)) x && partsOk (k + 1) (P.drop (k + 1)))):=Lib.hid (by rw [List.drop_eq_getElem_cons hlt,hx0];rfl)
   have hxl:=HPL.out x (by rw [← hx0];exact List.getElem_mem hlt)
   have zx:=mkS_size x
   have zxt:=mkS_toList x
   have HPx:Hid (partOk (decide (0 < k)) x = (!x.isEmpty && (decide (x.length ≤ 8) && (runes x).all (langR (decide (0 < k)))))):=Lib.hid (by rw [langR_all];rfl)
   have hw1:wr.heap.size < (wr.alloc (.cells #[.int .i64 (k:Int)] 3)).heap.size:=by simp
   have hbox:(wr.alloc (.cells #[.int .i64 (k:Int)] 3)).cell? ⟨wr.heap.size,0,none⟩ = some (.int .i64 (k:Int)):=by
    unfold World.cell?
    dsimp only
    rw [Kd.heap_new]
    try rfl
   have HA:=Lib.hid (all_calls x 226 #[.pointer (some ⟨wr.heap.size,0,none⟩)] (langR (decide (0 < k))) (wr.alloc (.cells #[.int .i64 (k:Int)] 3)) (holds_lang _ k wr.heap.size hw1 hbox))
   have HB1:=Lib.hid (bel_alloc HB.out (.cells #[.int .i64 (k:Int)] 3))
   have HNo:Hid (partOk (decide (0 < k)) x = false → isLang s = false):=Lib.hid (fun h=>by rw [HL.out,HP.out,HD.out,h];rfl)
   have HYes:Hid (partOk (decide (0 < k)) x = true → partsOk 0 P = partsOk (k + 1) (P.drop (k + 1))):=Lib.hid (fun h=>by rw [HP.out,HD.out,h];rfl)
   have HZ':=HZ.out
   clear hx0 hw1 hbox HP HD
   by_cases he:x = []
   ·
    have HF:=Lib.hid (HNo.out (by rw [HPx.out,he];rfl))
    have hE:x.isEmpty = true:=by rw [he];rfl
    clear HA HNo HYes HPx he
    go_wp2
    go_ret
    exact ⟨ret_bool HF.out.symm,HB1.out⟩
   ·
    have hE:x.isEmpty = false:=by cases x with
     | nil=>exact absurd rfl he
     | cons b t=>rfl
    by_cases h8:x.length ≤ 8
    ·
     have e8:decide ((8:Int) < (x.length:Int)) = false:=decide_eq_false (by omega)
     have HPx2:Hid (partOk (decide (0 < k)) x = (runes x).all (langR (decide (0 < k)))):=Lib.hid (by rw [HPx.out,hE,decide_eq_true h8];simp)
     clear HPx
     go_wp2_with fail
     refine HA.out.mono ?_
     rintro e w3 ⟨rfl,hb3⟩
     have HB3:=Lib.hid (bel_step HB1.out hb3)
     have HC3:Hid (∀ j (h:j < P.length),w3.cell? ⟨w.heap.size,j,none⟩ = some (.string (mkS P[j]))):=Lib.hid (fun j h=>by
      rw [(bcell hb3).1 _ _ (by simp;omega)]
      rw [← HC.out j h]
      exact (bcell (bel_alloc (Below.refl wr.heap.size wr) _)).1 _ _ HZ')
     have HZ3:Hid (w.heap.size < w3.heap.size):=Lib.hid (by have:=hb3.size;simp at this;omega)
     clear hb3
     cases hq:(runes x).all (langR (decide (0 < k))) with
     | true =>
      have HP3:=Lib.hid (HYes.out (HPx2.out.trans hq))
      clear hq
      go_wp2
      go_roundw
      case rel=>exact ⟨k + 1,by omega,by go_num,HB3,HZ3,HC3,HP3⟩
      case measure=>simp [intOf];omega
     | false =>
      have HF:=Lib.hid (HNo.out (HPx2.out.trans hq))
      clear hq
      go_wp2
      go_ret
      exact ⟨ret_bool HF.out.symm,HB3.out⟩
    ·
     have e8:decide ((8:Int) < (x.length:Int)) = true:=decide_eq_true (by omega)
     have HF:=Lib.hid (HNo.out (by rw [HPx.out,decide_eq_false h8];simp))
     clear HA HNo HYes HPx
     go_wp2
     go_ret
     exact ⟨ret_bool HF.out.symm,HB1.out⟩
  ·
   obtain rfl:k = P.length:=by omega
   rw [List.drop_length] at HP
   have HF:Hid (isLang s = decide ((s.length:Int) ≤ 16)):=Lib.hid (by
    rw [HL.out,HP.out,partsOk,Bool.true_and,Bool.eq_iff_iff,decide_eq_true_iff,decide_eq_true_iff]
    omega)
   go_wp2
   go_ret
   exact ⟨ret_bool HF.out.symm,HB.out⟩
end Go.Proofs.YtnplommdgfgboaaGreatDoor.Prg
namespace Go.Proofs.YtnplommdgfgboaaGreatDoor.Prg
open Go.RowKit Go.Lib B Rd Utf TermPure LinesPure Tx Env Bld Tc
open Go.Proofs.YtnplommdgfgboaaGreatDoor.Ref5 (termV Fits tripleV FitsT isTriple_eq)
set_option maxRecDepth 100000 in
set_option maxHeartbeats 3200000 in
theorem pis_calls (t:Term) (ht:Fits t) (hx4:t.extra.length ≤ 4294967000) (w:World) (he:Env w) :
  Calls Tryz.prog 151 #[termV t] w fun e w'=>e = .returned (.bool (is t))∧Below w.heap.size w w':=by
 obtain ⟨kind,x,ex⟩:=t
 obtain ⟨_,hx,hex⟩:=ht
 dsimp only at *
 have zx:=mkS_size x
 have ze:=mkS_toList ex
 have HE:=Lib.hid he
 have HI:Hid (is ⟨kind,x,ex⟩ = if kind = 1 then isIRI x && decide (ex = [])
  else if kind = 2 then isLabel x && decide (ex = [])
  else if kind = 3 then isText x && decide (ex = [])
  else if kind = 4 then isText x && isLang ex
  else if kind = 5 then isText x && isIRI ex
  else false):=Lib.hid rfl
 obtain ⟨xe,hxe⟩:∃ xe:Bool,decide (ex = []) = xe:=⟨_,rfl⟩
 have hee:ex.isEmpty = xe:=by rw [← hxe];cases ex <;> rfl
 rw [hxe] at HI
 clear he hxe
 unfold termV
 dsimp only
 go_enter Tryz.func151,Tryz.ntmps151
 go_upto_region 1 with fail
 go_cut [3] (fun v3 wx=>v3 = .bool (isText x)∧Hid (Below (w.heap.size + 1) (w.alloc (.cells #[.int .i64 kind,.string (mkS x),.string (mkS ex)] 24)) wx))
 case first =>
  clear hee HI
  have HT:Hid (isText x = (decide (x.length ≤ 30) && validD x)):=Lib.hid rfl
  by_cases h30:x.length ≤ 30
  ·
   have e30:decide ((x.length:Int) ≤ 30) = true:=decide_eq_true (by omega)
   go_wp2_with fail
   refine (valid_calls x (by omega) _ (HE.out.below ((Below.refl _ _).alloc (Nat.le_refl _) _))).mono ?_
   rintro e w1 ⟨rfl,hb1⟩
   have HB1:=Lib.hid hb1
   clear hb1
   have HT2:=Lib.hid (show isText x = validD x by rw [HT.out,decide_eq_true h30];simp)
   generalize validD x = v at *
   cases v
   all_goals go_wp2
   all_goals go_meet
   all_goals exact ⟨by rw [HT2.out],Lib.hid (by simpa using HB1.out)⟩
  ·
   have e30:decide ((x.length:Int) ≤ 30) = false:=decide_eq_false (by omega)
   have HT2:=Lib.hid (show isText x = false by rw [HT.out,decide_eq_false h30];rfl)
   go_wp2
   go_meet
   exact ⟨by rw [HT2.out],Lib.hid (Below.refl _ _)⟩
 case rest =>
  obtain ⟨rfl,HB⟩:=hcut
  have hb1:=HB.out
  have hb1':Below (w.alloc (.cells #[.int .i64 kind,.string (mkS x),.string (mkS ex)] 24)).heap.size (w.alloc (.cells #[.int .i64 kind,.string (mkS x),.string (mkS ex)] 24)) wc:=by simpa using hb1
  obtain ⟨hc1,hf1⟩:=bcell hb1'
  have HW:=Lib.hid (show Below w.heap.size w wc from ((Below.refl _ _).alloc (Nat.le_refl _) _).trans (hb1.mono (by omega)))
  have HE1:=Lib.hid (HE.out.below HW.out)
  have WC:w.heap.size < wc.heap.size:=by have:=hb1.size;simp at this;omega
  clear hb1 hb1' HB HE
  generalize isText x = tx at *
  by_cases k1:kind = 1
  ·
   subst k1
   have HF:=Lib.hid (HI.out.trans (if_pos rfl))
   clear HI
   go_wp2_with fail
   refine (isIRI_calls x (by omega) _ HE1.out).mono ?_
   rintro e w2 ⟨rfl,hb2⟩
   obtain ⟨hc2,hf2⟩:=bcell hb2
   have hz2:=hb2.size
   have HW2:=Lib.hid (bel_step HW.out hb2)
   have hz1:w.heap.size < wc.heap.size:=WC
   clear hb2
   generalize isIRI x = r at *
   cases r
   all_goals go_wp2
   all_goals go_ret
   all_goals exact ⟨ret_bool (by rw [HF.out];simp [*]),HW2.out⟩
  ·
   have e1:(kind == 1) = false:=by rw [beq_eq_false_iff_ne];exact k1
   by_cases k2:kind = 2
   ·
    subst k2
    have HF:=Lib.hid (HI.out.trans ((if_neg (by decide)).trans (if_pos rfl)))
    clear HI
    go_wp2_with fail
    refine (isLabel_calls x (by omega) _).mono ?_
    rintro e w2 ⟨rfl,hb2⟩
    obtain ⟨hc2,hf2⟩:=bcell hb2
    have hz2:=hb2.size
    have HW2:=Lib.hid (bel_step HW.out hb2)
    have hz1:w.heap.size < wc.heap.size:=WC
    clear hb2
    generalize isLabel x = r at *
    cases r
    all_goals go_wp2
    all_goals go_ret
    all_goals exact ⟨ret_bool (by rw [HF.out];simp [*]),HW2.out⟩
   ·
    have e2:(kind == 2) = false:=by rw [beq_eq_false_iff_ne];exact k2
    by_cases k3:kind = 3
    ·
     subst k3
     have HF:=Lib.hid (HI.out.trans ((if_neg (by decide)).trans ((if_neg (by decide)).trans (if_pos rfl))))
     clear HI
     cases tx with
     | false =>
      go_wp2
      all_goals go_ret
      all_goals exact ⟨ret_bool (by rw [HF.out];simp [*]),HW.out⟩
     | true =>
      go_wp2
      all_goals go_ret
      all_goals exact ⟨ret_bool (by rw [HF.out];simp [*]),HW.out⟩
    ·
     have e3:(kind == 3) = false:=by rw [beq_eq_false_iff_ne];exact k3
     by_cases k4:kind = 4
     ·
      subst k4
      have HF:=Lib.hid (HI.out.trans ((if_neg (by decide)).trans ((if_neg (by decide)).trans ((if_neg (by decide)).trans (if_pos rfl)))))
      clear HI
      cases tx with
      | false =>
       go_wp2
       all_goals go_ret
       all_goals exact ⟨ret_bool (by rw [HF.out];simp [*]),HW.out⟩
      | true =>
       go_wp2_with fail
       refine (isLang_calls ex (by omega) _ HE1.out).mono ?_
       rintro e w2 ⟨rfl,hb2⟩
       obtain ⟨hc2,hf2⟩:=bcell hb2
       have hz2:=hb2.size
       have HW2:=Lib.hid (bel_step HW.out hb2)
       have hz1:w.heap.size < wc.heap.size:=WC
       clear hb2
       generalize isLang ex = r at *
       cases r
       all_goals go_wp2
       all_goals go_ret
       all_goals exact ⟨ret_bool (by rw [HF.out];simp [*]),HW2.out⟩
     ·
      have e4:(kind == 4) = false:=by rw [beq_eq_false_iff_ne];exact k4
      by_cases k5:kind = 5
      ·
       subst k5
       have HF:=Lib.hid (HI.out.trans ((if_neg (by decide)).trans ((if_neg (by decide)).trans ((if_neg (by decide)).trans ((if_neg (by decide)).trans (if_pos rfl))))))
       clear HI
       cases tx with
       | false =>
        go_wp2
        all_goals go_ret
        all_goals exact ⟨ret_bool (by rw [HF.out];simp [*]),HW.out⟩
       | true =>
        go_wp2_with fail
        refine (isIRI_calls ex (by omega) _ HE1.out).mono ?_
        rintro e w2 ⟨rfl,hb2⟩
        obtain ⟨hc2,hf2⟩:=bcell hb2
        have hz2:=hb2.size
        have HW2:=Lib.hid (bel_step HW.out hb2)
        have hz1:w.heap.size < wc.heap.size:=WC
        clear hb2
        generalize isIRI ex = r at *
        cases r
        all_goals go_wp2
        all_goals go_ret
        all_goals exact ⟨ret_bool (by rw [HF.out];simp [*]),HW2.out⟩
      ·
       have e5:(kind == 5) = false:=by rw [beq_eq_false_iff_ne];exact k5
       have HF:=Lib.hid (HI.out.trans ((if_neg k1).trans ((if_neg k2).trans ((if_neg k3).trans ((if_neg k4).trans (if_neg k5))))))
       clear HI
       go_wp2
       go_ret
       exact ⟨ret_bool HF.out.symm,HW.out⟩
set_option maxRecDepth 100000 in
set_option maxHeartbeats 3200000 in
theorem pist_calls (t:Triple) (ht:FitsT t) (hg:t.s.extra.length ≤ 4294967000∧t.p.extra.length ≤ 4294967000∧t.o.extra.length ≤ 4294967000) (w:World) (he:Env w) :
  Calls Tryz.prog 117 #[tripleV t] w fun e w'=>e = .returned (.bool (isTriple t))∧Below w.heap.size w w':=by
 have HI:=Lib.hid (isTriple_eq t)
 obtain ⟨⟨k1,x1,y1⟩,⟨k2,x2,y2⟩,⟨k3,x3,y3⟩⟩:=t
 obtain ⟨h1,h2,h3⟩:=ht
 obtain ⟨g1,g2,g3⟩:=hg
 dsimp only at *
 have HE:=Lib.hid (he.below ((Below.refl w.heap.size w).alloc (Nat.le_refl _) (.cells #[.int .i64 k1,.string (mkS x1),.string (mkS y1),.int .i64 k2,.string (mkS x2),.string (mkS y2),.int .i64 k3,.string (mkS x3),.string (mkS y3)] 36)))
 have HB:=Lib.hid ((Below.refl w.heap.size w).alloc (Nat.le_refl _) (.cells #[.int .i64 k1,.string (mkS x1),.string (mkS y1),.int .i64 k2,.string (mkS x2),.string (mkS y2),.int .i64 k3,.string (mkS x3),.string (mkS y3)] 36))
 have H1:=Lib.hid (fun W hW=>pis_calls ⟨k1,x1,y1⟩ h1 g1 W hW)
 have H2:=Lib.hid (fun W hW=>pis_calls ⟨k2,x2,y2⟩ h2 g2 W hW)
 have H3:=Lib.hid (fun W hW=>pis_calls ⟨k3,x3,y3⟩ h3 g3 W hW)
 clear he h1 h2 h3 g1 g2 g3
 have HK:=Lib.hid (Ref5.is_kind ⟨k1,x1,y1⟩)
 dsimp only at HK
 unfold termV at H1 H2 H3
 dsimp only at H1 H2 H3
 generalize is ⟨k1,x1,y1⟩ = r1 at *
 generalize is ⟨k2,x2,y2⟩ = r2 at *
 generalize is ⟨k3,x3,y3⟩ = r3 at *
 unfold tripleV
 dsimp only
 go_enter Tryz.func117,Tryz.ntmps117
 go_wp2_with fail
 refine (H1.out _ HE.out).mono ?_
 rintro e w1 ⟨rfl,hb1⟩
 obtain ⟨hc1,hf1⟩:=bcell hb1
 have hz1:w.heap.size < w1.heap.size:=by have:=hb1.size;simp at this;omega
 have HB1:=Lib.hid (bel_step HB.out hb1)
 have HE1:=Lib.hid (HE.out.below hb1)
 clear hb1
 cases r1 with
 | false =>
  have HF:=Lib.hid HI.out
  go_wp2
  go_ret
  exact ⟨ret_bool (by rw [HI.out];rfl),HB1.out⟩
 | true =>
  go_wp2_with fail
  refine (H2.out _ HE1.out).mono ?_
  rintro e w2 ⟨rfl,hb2⟩
  obtain ⟨hc2,hf2⟩:=bcell hb2
  have hz2:w.heap.size < w2.heap.size:=by have:=hb2.size;omega
  have HB2:=Lib.hid (bel_step HB1.out hb2)
  have HE2:=Lib.hid (HE1.out.below hb2)
  clear hb2
  cases r2 with
  | false =>
   go_wp2
   go_ret
   exact ⟨ret_bool (by rw [HI.out];rfl),HB2.out⟩
  | true =>
   go_wp2_with fail
   refine (H3.out _ HE2.out).mono ?_
   rintro e w3 ⟨rfl,hb3⟩
   obtain ⟨hc3,hf3⟩:=bcell hb3
   have hz3:w.heap.size < w3.heap.size:=by have:=hb3.size;omega
   have HB3:=Lib.hid (bel_step HB2.out hb3)
   clear hb3
   cases r3 with
   | false =>
    go_wp2
    go_ret
    exact ⟨ret_bool (by rw [HI.out];rfl),HB3.out⟩
   | true =>
    have HF:Hid (isTriple ⟨⟨k1,x1,y1⟩,⟨k2,x2,y2⟩,⟨k3,x3,y3⟩⟩ = (((k1 == 1) || (k1 == 2)) && (k2 == 1))):=Lib.hid (by
     have hk:=HK.out (by first | rfl | trivial)
     rw [HI.out]
     simp only [Bool.true_and]
     congr 1
     rw [Bool.eq_iff_iff]
     simp
     omega)
    clear HI HK
    obtain ⟨q1,hq1⟩:∃ q:Bool,(k1 == 1) = q:=⟨_,rfl⟩
    obtain ⟨q2,hq2⟩:∃ q:Bool,(k1 == 2) = q:=⟨_,rfl⟩
    obtain ⟨q3,hq3⟩:∃ q:Bool,(k2 == 1) = q:=⟨_,rfl⟩
    rw [hq1,hq2,hq3] at HF
    cases q1
    all_goals cases q2
    all_goals cases q3
    all_goals go_wp2
    all_goals go_ret
    all_goals exact ⟨ret_bool (by rw [HF.out];rfl),HB3.out⟩
end Go.Proofs.YtnplommdgfgboaaGreatDoor.Prg
